/-
 An interpreter of the Go code, proved sound, and the rules by which typed functions are shown to be what it computes. Part 1 of 4. No conditions.
-/
import Derived.Calls
import Derived.Orders
import Derived.Deep.Draws
import Derived.Laws.BytesString
import Derived.RowKit3
import Derived.Laws.Rows
import Derived.Laws.StructEq
import Derived.Laws.Append
import Derived.Laws.CopyRow
import Derived.Laws.Cells
import Derived.WideLaws
import Derived.Lib.MinMax
import Derived.Laws.Alloc2
import Derived.Laws.MakeOwn
import Derived.Laws.AppendOwn
import Derived.Great.BuildSlice
import Derived.MapKept
set_option linter.unusedVariables false
set_option linter.unusedSimpArgs false
namespace Go.Proofs.YtphpkphklegfeaaGreat.K
inductive V where
 | int (k : IntKind) (n : Int)
 | bool (b : Bool)
 | str (s : ByteArray)
 | HW
 | ptr (b off : Nat)
 | lp (lv : Nat) (cells : List V) (off : Nat)
 | lit (lv len : Nat) (cells : List V)
 | tl (len : Nat) (cells : List V)
 | snap (b len : Nat) (cells : List V)
 | sl (b off len : Nat)
 | agg (cells : List V)
 | FH (vs : List V)
 | fn (f : FuncId) (caps : List V)
 | Eg
 | FF (b : Nat)
 deriving Inhabited
inductive Bp where
 | cells (sz : Nat) (cs : List V)
 | Br (lv n sz : Nat)
 | dead
 | mp (BJ : List (V × V))
 deriving Inhabited
abbrev A3 := List Bp
abbrev Lk := List (List Nat)
inductive Tf where | Pv | exact | share
 deriving DecidableEq
structure Bg where
 Cs : FuncId → List Tf
 N4 : FuncId → Bool
 grow : FuncId → Bool
 GP : FuncId → Bool
def V.cellsOf : V → List V
 | .agg cs => cs
 | v => [v]
def V.Bh : V → Bool
 | .agg _ | .FH _ => false
 | _ => true
def Ca : V := .FH []
def DP : Value → Option V
 | .int k n => some (.int k n)
 | .bool b => some (.bool b)
 | .string s => some (.str s)
 | .pointer none => some .HW
 | .slice none 0 0 => some (.tl 0 [])
 | .nilFunc => some .Eg
 | _ => none
def LL : List Value → Option (List V)
 | [] => some []
 | v :: vs => (DP v).bind fun x => (LL vs).map (x :: ·)
def E8 : Value → Option V
 | .agg cs => (LL cs.toList).map .agg
 | v => DP v
structure St where
 T : Nat → V
 H : A3
def St.set (S : St) (d : Nat) (v : V) : St := { S with T := fun i => if i = d then v else S.T i }
def St.put (S : St) (d : Option Nat) (v : V) : St := match d with | some d => S.set d v | none => S
def ev (T : Nat → V) : Operand → Option V
 | .tmp t => some (T t)
 | .const v => E8 v
 | .func f => some (.fn f [])
 | .global _ => none
section types
variable (P : Program)
def B3 (t : TypeId) : Option Nat := (P.info? t).map (·.size)
def C3 (t : TypeId) : Option Nat := (P.info? t).map (·.bytes)
def Cp (t : TypeId) : Option Bool :=
 match P.underlying t with
 | some (.struct _) | some (.array _ _) => some true
 | some _ => some false
 | none => none
def BI (t : TypeId) : Option (List V) := ((P.info? t).bind (·.zero)).bind fun z => (E8 z).map V.cellsOf
def Ax (t : TypeId) : Option TypeId := match P.underlying t with | some (.slice e) => some e | _ => none
def AW (s : TypeId) (f : Nat) : Option Nat :=
 match P.underlying s with
 | some (.struct fs) => match fs[f]? with
  | some g => match B3 P g.type with
   | some (_ + 1) => some g.offset
   | _ => none
  | none => none
 | _ => none
def El (t : TypeId) : Option (List (Nat × Nat)) :=
 match P.underlying t with
 | some (.struct fs) => fs.toList.mapM fun f => (P.info? f.type).map fun i => (f.offset, i.size)
 | _ => none
def nZ (e : TypeId) : Bool := match P.underlying e with | some (.int .u8) => true | _ => false
inductive Sc where | b | i | s
 deriving DecidableEq
def EW (t : TypeId) : Option Sc :=
 match P.underlying t with
 | some .bool => some .b
 | some (.int _) => some .i
 | some .string => some .s
 | _ => none
def EG (n : Nat) : List Field → Option (List Sc)
 | [] => some []
 | f :: fs => if f.name ≠ "_" ∧ f.offset = n ∧ B3 P f.type = some 1 then (EW P f.type).bind fun k => (EG (n + 1) fs).map (k :: ·) else none
def Im (t : TypeId) : Option (List Sc) :=
 match P.underlying t with
 | some (.struct fs) => if !P.stoodInHeld t && !P.eqGuardType P.depth t then EG P 0 fs.toList else none
 | _ => none
end types
def Lf (acc : ByteArray) : List V → Option ByteArray
 | [] => some acc
 | .int .u8 n :: cs => Lf (acc.push (UInt8.ofNat n.toNat)) cs
 | _ => none
def Bj (cs : List V) (off : Nat) (xs : List V) : List V := cs.take off ++ xs ++ cs.drop (off + xs.length)
def Et : Sc → V → V → Option Bool
 | .i, .int k a, .int k' b => if k = k' then some (a == b) else none
 | .b, .bool a, .bool b => some (a == b)
 | .s, .str a, .str b => some (a.toList == b.toList)
 | _, _, _ => none
def Ck : List Sc → List V → List V → Option Bool
 | [], _, _ => some true
 | k :: ks, x :: xs, y :: ys => (Et k x y).bind fun b => if b then Ck ks xs ys else some false
 | _, _, _ => none
def VW (op : BinOp) (k : IntKind) (a b : Int) : Option V :=
 match op with
 | .add => some (.int k (k.wrap (a + b)))
 | .sub => some (.int k (k.wrap (a - b)))
 | .mul => some (.int k (k.wrap (a * b)))
 | .quo => if b = 0 then none else some (.int k (k.wrap (a.tdiv b)))
 | .rem => if b = 0 then none else some (.int k (a.tmod b))
 | .xor => some (.int k (k.wrap (BitVec.ofInt k.bits a ^^^ BitVec.ofInt k.bits b).toNat))
 | .eql => some (.bool (a == b))
 | .neq => some (.bool (a != b))
 | .lss => some (.bool (decide (a < b)))
 | .leq => some (.bool (decide (a ≤ b)))
 | .gtr => some (.bool (decide (a > b)))
 | .geq => some (.bool (decide (a ≥ b)))
 | _ => none
def Pl (P : Program) (op : BinOp) (t : TypeId) (x y : V) : Option V :=
 match x, y with
 | .int k a, .int k' b => if k = k' then VW op k a b else none
 | .bool a, .bool b =>
  match op, P.underlying t with
  | .eql, some .bool => some (.bool (a == b))
  | .neq, some .bool => some (.bool (!(a == b)))
  | _, _ => none
 | .str a, .str b =>
  match op with
  | .eql => some (.bool (a.toList == b.toList))
  | .neq => some (.bool !(a.toList == b.toList))
  | .add => if a.size + b.size ≤ 1099511627776 then some (.str (a ++ b)) else none
  | _ => none
 | .agg xs, .agg ys =>
  (Im P t).bind fun ks =>
   match op with
   | .eql => (Ck ks xs ys).map .bool
   | .neq => (Ck ks xs ys).map fun b => .bool !b
   | _ => none
 | _, _ => none
def lO (op : UnOp) (x : V) : Option V :=
 match op, x with
 | .not, .bool b => some (.bool !b)
 | .neg, .int k n => some (.int k (k.wrap (0 - n)))
 | _, _ => none
def CZ : V → Option Nat
 | .lit _ n _ | .tl n _ | .snap _ n _ | .sl _ _ n => some n
 | _ => none
def Fx (H : A3) (sz : Nat) : V → Option (List V)
 | .lit _ _ cs | .tl _ cs | .snap _ _ cs => some cs
 | .sl b off len => match H[b]? with
  | some (.cells z cs) => if z = sz ∧ off + len * sz ≤ cs.length then some ((cs.drop off).take (len * sz)) else none
  | _ => none
 | _ => none
def BA (P : Program) (t : TypeId) (cs : List V) (off : Nat) : Option V :=
 match Cp P t with
 | some true => (B3 P t).bind fun n => if off + n ≤ cs.length then some (.agg ((cs.drop off).take n)) else none
 | some false => cs[off]?
 | none => none
def G5 (P : Program) (t : TypeId) (H : A3) : V → Option V
 | .ptr b off => match H[b]? with
  | some (.cells _ cs) => BA P t cs off
  | _ => none
 | .lp _ cs off => BA P t cs off
 | _ => none
def clean (d : Nat) : V → Bool
 | .int .. | .bool _ | .str _ | .HW | .Eg => true
 | .lit lv _ cs => (lv == 0 || decide (lv < d)) && cleanL cs
 | .agg cs => cleanL cs
 | .FH cs => cleanL cs
 | _ => false
where
 cleanL : List V → Bool
  | [] => true
  | v :: vs => clean d v && cleanL vs
def B4 (lo : Nat) : Nat → A3 → V → Option (V × A3)
 | 0, _, _ => none
 | k + 1, H, v =>
  match v with
  | .int .. | .bool _ | .str _ | .HW | .Eg => some (v, H)
  | .lit .. => if clean 1 v then some (v, H) else none
  | .tl n cs => (giveL (B4 lo k) H cs).map fun r => (.lit 0 n r.1, r.2)
  | .snap b n cs => match H[b]? with
   | some (.Br _ m _) => if b < lo ∨ m ≠ n then none else (giveL (B4 lo k) (H.set b .dead) cs).map fun r => (.lit 0 n r.1, r.2)
   | _ => none
  | .sl b off n => match H[b]? with
   | some (.cells sz cs) => if b < lo ∨ cs.length < off + n * sz then none else
     (giveL (B4 lo k) (H.set b .dead) ((cs.drop off).take (n * sz))).map fun r => (.lit 0 n r.1, r.2)
   | _ => none
  | .agg cs => (giveL (B4 lo k) H cs).map fun r => (.agg r.1, r.2)
  | _ => none
where
 giveL (f : A3 → V → Option (V × A3)) : A3 → List V → Option (List V × A3)
  | H, [] => some ([], H)
  | H, v :: vs => (f H v).bind fun r => (giveL f r.2 vs).map fun q => (r.1 :: q.1, q.2)
def BT (d : Nat) : V → Bool
 | .int .. | .bool _ | .str _ | .HW | .Eg | .ptr .. | .sl .. | .FF _ => true
 | .lit lv _ cs => (lv == 0 || decide (lv < d)) && cleanGL cs
 | .agg cs => cleanGL cs
 | .FH cs => cleanGL cs
 | .tl _ cs => cleanGL cs
 | .snap _ _ cs => cleanGL cs
 | .fn _ cs => cleanGL cs
 | _ => false
where
 cleanGL : List V → Bool
  | [] => true
  | v :: vs => BT d v && cleanGL vs
def Ao (lv : Nat) (H : A3) : Nat → V → Option (V × List Nat)
 | 0, _ => none
 | k + 1, v =>
  match v with
  | .int .. | .bool _ | .str _ | .HW | .Eg | .ptr .. | .FF .. | .lp .. | .lit .. | .fn .. => some (v, [])
  | .tl n cs => (lendL (Ao lv H k) cs).map fun r => (.lit lv n r.1, r.2)
  | .snap _ n cs => (lendL (Ao lv H k) cs).map fun r => (.lit lv n r.1, r.2)
  | .sl b off n => match H[b]? with
   | some (.cells sz cs) => if cs.length < off + n * sz then none else
     (lendL (Ao lv H k) ((cs.drop off).take (n * sz))).map fun r => (.lit lv n r.1, b :: r.2)
   | _ => none
  | .agg cs => (lendL (Ao lv H k) cs).map fun r => (.agg r.1, r.2)
  | .FH _ => none
where
 lendL (f : V → Option (V × List Nat)) : List V → Option (List V × List Nat)
  | [] => some ([], [])
  | v :: vs => (f v).bind fun r => (lendL f vs).map fun q => (r.1 :: q.1, r.2 ++ q.2)
def B2 (th : Bool) (lo d : Nat) : Nat → A3 × List Bp → V → Option (V × A3 × List Bp)
 | 0, _, _ => none
 | k + 1, X, v =>
  match v with
  | .int .. | .bool _ | .str _ | .HW | .Eg => some (v, X)
  | .ptr b _ => if b < lo then some (v, X) else none
  | .FF b => if b < lo then some (v, X) else none
  | .lit .. => if clean d v then some (v, X) else none
  | .tl n cs => if n = 0 then some (if th then .tl 0 [] else .lit 0 0 [], X) else (resL (B2 th lo d k) X cs).map fun r => (.lit 0 n r.1, r.2)
  | .snap b n cs => match X.1[b]? with
   | some (.Br l m sz) => if b < lo ∨ m ≠ n ∨ l < d then none else
     (resL (B2 th lo d k) (X.1.set b .dead, X.2) cs).bind fun r =>
      if th then if cs.length = n * sz then some (.sl (lo + r.2.2.length) 0 n, r.2.1, r.2.2 ++ [.cells sz r.1]) else none else some (.lit 0 n r.1, r.2)
   | _ => none
  | .sl b off n => if b < lo then some (v, X) else match X.1[b]? with
   | some (.cells sz cs) => if cs.length < off + n * sz then none else
     (resL (B2 th lo d k) (X.1.set b .dead, X.2) ((cs.drop off).take (n * sz))).bind fun r =>
      if th then if off = 0 ∧ n * sz = cs.length then some (.sl (lo + r.2.2.length) 0 n, r.2.1, r.2.2 ++ [.cells sz r.1]) else none else some (.lit 0 n r.1, r.2)
   | _ => none
  | .agg cs => (resL (B2 th lo d k) X cs).map fun r => (.agg r.1, r.2)
  | .FH cs => (resL (B2 th lo d k) X cs).map fun r => (.FH r.1, r.2)
  | _ => none
where
 resL (f : A3 × List Bp → V → Option (V × A3 × List Bp)) : A3 × List Bp → List V → Option (List V × A3 × List Bp)
  | X, [] => some ([], X)
  | X, v :: vs => (f X v).bind fun r => (resL f r.2 vs).map fun q => (r.1 :: q.1, q.2)
def BU : Nat := 8
structure Cx where
 P : Program
 hints : Bg
 fn : FuncId
 ntmps : Nat
 base : Nat
 lk : Lk
 still : Bool := false
 calm : Bool := false
 Γ : FuncId → List V → A3 → Lk → Option (V × A3)
def Cx.d (c : Cx) : Nat := c.lk.length
def AV (lk : Lk) (b : Nat) : Bool := lk.all fun l => !l.contains b
def Cx.BR (c : Cx) (b : Nat) : Bool := decide (c.base ≤ b) || AV c.lk b
def KC (T : Nat → V) : List Operand → Option (List V)
 | [] => some []
 | o :: os => (ev T o).bind fun v => (KC T os).map (v :: ·)
def GQ (c : Cx) (m : Tf) (H : A3) (v : V) : Option (V × List Nat × A3) :=
 match m with
 | .Pv => (Ao (c.d + 1) H BU v).map fun r => (r.1, r.2, H)
 | .exact => some (v, [], H)
 | .share => if c.calm then none else (B4 c.base BU H v).map fun r => (r.1, [], r.2)
def Cx.Bw (c : Cx) (g : FuncId) (L : List Nat) (H : A3) : List Nat :=
 if c.calm then L ++ List.range H.length else if c.hints.grow g && !c.hints.grow c.fn then L ++ List.range c.base else L
def Af (c : Cx) : List Tf → A3 → List V → Option (List V × List Nat × A3)
 | _, H, [] => some ([], [], H)
 | ms, H, v :: vs =>
  (GQ c (ms.headD .Pv) H v).bind fun r => (Af c ms.tail r.2.2 vs).map fun q => (r.1 :: q.1, r.2.1 ++ q.2.1, q.2.2)
def Fy (c : Cx) (H : A3) (v : V) : Option (V × A3) := if c.hints.GP c.fn then some (v, H) else if c.still then (if clean 1 v then some (v, H) else none) else B4 c.base BU H v
def Gw (c : Cx) (t : TypeId) (H : A3) (a x : V) : Option A3 :=
 match a with
 | .ptr b off =>
  if c.BR b then
   (if b < c.base then (if c.hints.grow c.fn then if BT 1 x then some (x, H) else none else B4 c.base BU H x) else some (x, H)).bind fun r =>
   match r.2[b]? with
   | some (.cells sz cs) =>
    if B3 c.P t = some r.1.cellsOf.length ∧ off + r.1.cellsOf.length ≤ cs.length ∧ r.1.cellsOf.all V.Bh = true then
     some (r.2.set b (.cells sz (Bj cs off r.1.cellsOf)))
    else none
   | _ => none
  else none
 | _ => none
def DU (c : Cx) (st xt : TypeId) (H : A3) (s x : V) : Option (V × A3) :=
 (Ax c.P st).bind fun e => (B3 c.P e).bind fun sz => (C3 c.P e).bind fun by_ => (BI c.P e).bind fun z =>
 if (Ax c.P xt).isSome ∧ sz ≠ 0 ∧ z.length = sz then
  (CZ x).bind fun n => (Fx H sz x).bind fun xs =>
  if xs.length = n * sz ∧ xs.all V.Bh = true then
   match s with
   | .tl m cs =>
    if n = 0 then some (s, H) else
    if cs.length = m * sz ∧ (m + n) * (by_ + 1) ≤ 70368744177664 then some (.snap H.length (m + n) (cs ++ xs), H ++ [.Br c.d (m + n) sz]) else none
   | .snap b m cs =>
    if n = 0 then some (s, H) else
    match H[b]? with
    | some (.Br l m' sz') =>
     if cs.length = m * sz ∧ (m + n) * (by_ + 1) ≤ 70368744177664 ∧ m' = m ∧ sz' = sz ∧ c.BR b = true then
      some (.snap b (m + n) (cs ++ xs), H.set b (.Br l (m + n) sz)) else none
    | _ => none
   | _ => none
  else none
 else none
def UZ : V → V
 | .tl 0 [] => .lit 0 0 []
 | v => v
def HK (kp : Bool) (v : V) : V := if kp then v else UZ v
def JK (P : Program) (kp : Bool) (t : TypeId) (H : A3) (n m : V) : Option (V × A3) :=
 match n, m with
 | .int .i64 a, .int .i64 b =>
  (Ax P t).bind fun e => (B3 P e).bind fun sz => (C3 P e).bind fun by_ => (BI P e).bind fun z =>
  if a = b ∧ 0 ≤ a ∧ a * (by_ + 1) ≤ 70368744177664 ∧ z.length = sz ∧ sz ≠ 0 then
   some (.sl H.length 0 a.toNat, H ++ [.cells sz (List.replicate a.toNat (z.map (HK kp))).flatten])
  else none
 | _, _ => none
def E5 (place : Nat → Option (Nat × Nat)) (cells : List V) : List (Nat × V) → Option (List V)
 | [] => some cells
 | (i, v) :: rest => match place i with
  | none => none
  | some (off, sz) => if v.cellsOf.length ≠ sz ∨ cells.length < off + sz ∨ v.cellsOf.all V.Bh = false then none else E5 place (Bj cells off v.cellsOf) rest
def CM (c : Cx) : A3 → List (Nat × V) → Option (List (Nat × V) × A3)
 | H, [] => some ([], H)
 | H, (i, v) :: r => (Fy c H v).bind fun x => (CM c x.2 r).map fun q => ((i, x.1) :: q.1, q.2)
def Qz (T : Nat → V) : List (Nat × Operand) → Option (List (Nat × V))
 | [] => some []
 | (i, o) :: os => (ev T o).bind fun v => (Qz T os).map ((i, v) :: ·)
def BS : V → Bool
 | .int .. | .bool _ | .str _ => true
 | .agg cs => cs.all fun | .int .. | .bool _ | .str _ => true | _ => false
 | _ => false
def Cf : V → Value
 | .int k n => .int k n
 | .bool b => .bool b
 | .str s => .string s
 | _ => .pointer none
def Az : V → Value
 | .agg cs => .agg (cs.map Cf).toArray
 | v => Cf v
def FV (BJ : List (V × V)) : Array MapEntry := (BJ.zipIdx.map fun x => { key := Az x.1.1, val := Az x.1.2, born := x.2 }).toArray
inductive KT where | one (q : Sc) | many (ks : List Sc)
 deriving DecidableEq
def Pu (P : Program) (k : TypeId) : Option KT := match EW P k with
 | some q => some (.one q)
 | none => (Im P k).bind fun ks => if ks.all (fun q => decide (q ≠ .s)) then some (.many ks) else none
def Dx : KT → V → V → Option Bool
 | .one .s, .str a, .str b => some (a == b)
 | .one .s, _, _ => none
 | .one q, x, y => Et q x y
 | .many ks, .agg xs, .agg ys => if xs.length = ks.length ∧ ys.length = ks.length then Ck ks xs ys else none
 | _, _, _ => none
def Ed (kt : KT) (k : V) : List (V × V) → Nat → Option (Option (Nat × V))
 | [], _ => some none
 | e :: es, i => (Dx kt k e.1).bind fun b => if b then some (some (i, e.2)) else Ed kt k es (i + 1)
def Px (P : Program) (t : TypeId) : Option (KT × TypeId) := match P.underlying t with
 | some (.map k e) => (Pu P k).map fun kt => (kt, e)
 | _ => none
def Pg (P : Program) (e : TypeId) : Option V := ((P.info? e).bind (·.zero)).bind E8
def Ip (P : Program) (t : TypeId) (H : A3) (x k : V) (ok : Bool) : Option V :=
 match x with
 | .FF b => match H[b]? with
  | some (.mp BJ) => (Px P t).bind fun q => if BS k ∧ Dx q.1 k k = some true then (Ed q.1 k BJ 0).bind fun
    | some (_, v) => some (if ok then .FH [v, .bool true] else v)
    | none => (Pg P q.2).map fun z => if ok then .FH [z, .bool false] else z
   else none
  | _ => none
 | _ => none
def V5 (c : Cx) (t : TypeId) (H : A3) (x k v : V) : Option A3 :=
 match x with
 | .FF b => match H[b]? with
  | some (.mp BJ) => (Px c.P t).bind fun q => if BS k ∧ BS v ∧ Dx q.1 k k = some true ∧ c.BR b = true then (Ed q.1 k BJ 0).map fun
    | some (i, _) => H.set b (.mp (BJ.set i (k, v)))
    | none => H.set b (.mp (BJ ++ [(k, v)]))
   else none
  | _ => none
 | _ => none
def J4 (c : Cx) (t : TypeId) (H : A3) (x k : V) : Option (V × A3) :=
 match x with
 | .FF b => match H[b]? with
  | some (.mp BJ) => (Px c.P t).bind fun q => if BS k ∧ Dx q.1 k k = some true ∧ c.BR b = true then (Ed q.1 k BJ 0).bind fun
    | some (i, v) => some (.FH [v, .int .i64 i], H.set b (.mp (BJ.set i (k, v))))
    | none => (Pg c.P q.2).bind fun z => if BS z then some (.FH [z, .int .i64 BJ.length], H.set b (.mp (BJ ++ [(k, z)]))) else none
   else none
  | _ => none
 | _ => none
def Nn (c : Cx) (H : A3) (x stamp v : V) : Option A3 :=
 match x, stamp with
 | .FF b, .int _ i => match H[b]? with
  | some (.mp BJ) => if 0 ≤ i ∧ BS v ∧ c.BR b = true then (BJ[i.toNat]?).map fun e => H.set b (.mp (BJ.set i.toNat (e.1, v))) else none
  | _ => none
 | _, _ => none
def Ce (T : Nat → V) (n : Nat) : Option Operand → Option Nat
 | none => some n
 | some o => match ev T o with
  | some (.int _ i) => if 0 ≤ i then some i.toNat else none
  | _ => none
def CU (c : Cx) (o : Oper) (S : St) : Option (V × A3) :=
 let q (x : Option V) : Option (V × A3) := x.map fun v => (v, S.H)
 match o.op with
 | .move x | .assign x => q (ev S.T x)
 | .pick cnd a b => match ev S.T cnd with
  | some (.bool true) => q (ev S.T a)
  | some (.bool false) => q (ev S.T b)
  | _ => none
 | .alloc t => (B3 c.P t).bind fun sz => (BI c.P t).bind fun z => some (.ptr S.H.length 0, S.H ++ [.cells sz z])
 | .box t x => (B3 c.P t).bind fun sz => (ev S.T x).bind fun v => if v.cellsOf.all V.Bh then some (.ptr S.H.length 0, S.H ++ [.cells sz v.cellsOf]) else none
 | .build t parts => (Qz S.T parts.toList).bind fun ps => (BI c.P t).bind fun z => (El c.P t).bind fun pl =>
   q ((E5 (fun i => pl[i]?) z ps).map .agg)
 | .buildSlice t n parts => (Qz S.T parts.toList).bind fun ps => (CM c S.H ps).bind fun r =>
   (Ax c.P t).bind fun e => (B3 c.P e).bind fun sz => (BI c.P e).bind fun z =>
   if z.length = sz ∧ sz ≠ 0 ∧ n * sz ≤ 1048576 then
    (E5 (fun i => some (i * sz, sz)) (List.replicate n z).flatten r.1).map fun cs => (.tl n cs, r.2)
   else none
 | .load t a => (ev S.T a).bind fun v => q (G5 c.P t S.H v)
 | .store t a x => (ev S.T a).bind fun p => (ev S.T x).bind fun v => (Gw c t S.H p v).map fun H => (Ca, H)
 | .nilCheck x => match ev S.T x with
  | some (.ptr b off) => q (some (.ptr b off))
  | some (.lp lv cs off) => q (some (.lp lv cs off))
  | _ => none
 | .binOp op t x y _ => (ev S.T x).bind fun a => (ev S.T y).bind fun b => q (Pl c.P op t a b)
 | .unOp op _ x => (ev S.T x).bind fun a => q (lO op a)
 | .convert src dst x => match c.P.underlying src, c.P.underlying dst, ev S.T x with
  | some (.int _), some (.int k), some (.int _ n) => q (some (.int k (k.wrap n)))
  | some (.slice e), some .string, some (.tl n cs) => if n = cs.length ∧ nZ c.P e = true then q ((Lf .empty cs).map .str) else none
  | _, _, _ => none
 | .makeFunc fn first caps => match fn, first.toList with
  | .func f, [] => (KC S.T caps.toList).bind fun vs => q (some (.fn f vs))
  | _, _ => none
 | .makeSlice t n m => (ev S.T n).bind fun a => (ev S.T m).bind fun b => JK c.P (c.hints.GP c.fn) t S.H a b
 | .slice t x lo hi mx => match mx with
  | none => (ev S.T x).bind fun v => (CZ v).bind fun n => (Ce S.T 0 lo).bind fun l => (Ce S.T n hi).bind fun h =>
   (Ax c.P t).bind fun e => (B3 c.P e).bind fun sz =>
   if l ≤ h ∧ h ≤ n then
    match v with
    | .lit lv _ cs => q (some (.lit lv (h - l) ((cs.drop (l * sz)).take ((h - l) * sz))))
    | .tl _ cs => q (some (.lit 0 (h - l) ((cs.drop (l * sz)).take ((h - l) * sz))))
    | .snap _ _ cs => q (some (.lit c.d (h - l) ((cs.drop (l * sz)).take ((h - l) * sz))))
    | .sl b off _ => q (some (if l = h then .lit 0 0 [] else .sl b (off + l * sz) (h - l)))
    | _ => none
   else none
  | some mx => match lo, hi with
   | none, some hi => (ev S.T x).bind fun v => (CZ v).bind fun _ => (Ax c.P t).bind fun e => (B3 c.P e).bind fun _ =>
    match ev S.T hi, ev S.T mx with
    | some (.int _ i), some (.int _ j) => if i = 0 ∧ j = 0 then q (some (.tl 0 [])) else none
    | _, _ => none
   | _, _ => none
 | .fieldAddr s x f => (AW c.P s f).bind fun off => match ev S.T x with
  | some (.ptr b o) => q (some (.ptr b (o + off)))
  | some (.lp lv cs o) => q (some (.lp lv cs (o + off)))
  | _ => none
 | .field s x f => (AW c.P s f).bind fun off => match c.P.underlying s with
  | some (.struct fs) => match fs[f]?, ev S.T x with
   | some g, some (.agg cs) => q (BA c.P g.type cs off)
   | _, _ => none
  | _ => none
 | .indexAddr t x i => (Ax c.P t).bind fun e => (B3 c.P e).bind fun sz => (ev S.T x).bind fun v => match ev S.T i with
  | some (.int _ n) => (CZ v).bind fun len => if 0 ≤ n ∧ n < len then
    match v with
    | .lit lv _ cs => q (some (.lp lv cs (n.toNat * sz)))
    | .tl _ cs => q (some (.lp 0 cs (n.toNat * sz)))
    | .snap _ _ cs => q (some (.lp c.d cs (n.toNat * sz)))
    | .sl b off _ => q (some (.ptr b (off + n.toNat * sz)))
    | _ => none
   else none
  | _ => none
 | .index t x i => match c.P.underlying t, ev S.T x, ev S.T i with
  | some .string, some (.str s), some (.int _ n) => if 0 ≤ n then q ((s[n.toNat]?).map fun b => .int .u8 b.toNat) else none
  | _, _, _ => none
 | .extract x i => match ev S.T x with
  | some (.FH vs) => q vs[i]?
  | _ => none
 | .makeMap _ none => some (.FF S.H.length, S.H ++ [.mp []])
 | .lookup t x k ok => (ev S.T x).bind fun m => (ev S.T k).bind fun kv => q (Ip c.P t S.H m kv ok)
 | .mapUpdate t x k v => (ev S.T x).bind fun m => (ev S.T k).bind fun kv => (ev S.T v).bind fun w => (V5 c t S.H m kv w).map fun H => (Ca, H)
 | .mapEntry t x k => (ev S.T x).bind fun m => (ev S.T k).bind fun kv => J4 c t S.H m kv
 | .entryStore _ x st v => (ev S.T x).bind fun m => (ev S.T st).bind fun s => (ev S.T v).bind fun w => (Nn c S.H m s w).map fun H => (Ca, H)
 | .call k => match k.callee with
  | .builtin .len => match k.args.toList, k.argTypes[0]? with
   | [x], some t => match c.P.underlying t, ev S.T x with
    | some .string, some (.str s) => q (some (.int .i64 s.size))
    | some (.slice _), some v => (CZ v).bind fun n => q (some (.int .i64 n))
    | _, _ => none
   | _, _ => none
  | .builtin .append => match k.args.toList, k.argTypes.toList with
   | [s, x], [st, xt] => (ev S.T s).bind fun a => (ev S.T x).bind fun b => DU c st xt S.H a b
   | _, _ => none
  | .builtin .min => match k.args.toList with
   | [x, y] => match ev S.T x, ev S.T y with
    | some (.int k a), some (.int _ b) => q (some (.int k (if b < a then b else a)))
    | _, _ => none
   | _ => none
  | .builtin .max => match k.args.toList with
   | [x, y] => match ev S.T x, ev S.T y with
    | some (.int k a), some (.int _ b) => q (some (.int k (if b > a then b else a)))
    | _, _ => none
   | _ => none
  | .value f => match ev S.T f with
   | some (.fn g caps) => (KC S.T k.args.toList).bind fun vs =>
    (Af c (c.hints.Cs g) S.H (vs ++ caps)).bind fun r =>
     c.Γ g r.1 r.2.2 (c.lk ++ [c.Bw g r.2.1 r.2.2])
   | _ => none
  | _ => none
 | _ => none
def Iq (c : Cx) (o : Oper) (S : St) : Option St :=
 match o.dst with
 | none => (CU c o S).map fun r => { S with H := r.2 }
 | some d => if d < c.ntmps then (CU c o S).map fun r => { S with H := r.2 }.set d r.1 else none
def D0 (ops : Array Oper) (T : Nat → V) (o : Oper) : Option Bool :=
 match o.guard with
 | none => some true
 | some (j, want) => match (ops[j]?).bind (·.dst) with
  | some t => match T t with
   | .bool b => some (b == want)
   | .FH [] => some false
   | _ => none
  | none => none
def CW (c : Cx) (ops : Array Oper) (o : Oper) (S : St) : Option St :=
 (D0 ops S.T o).bind fun b =>
  if b then Iq c o S else match o.dst with | some d => if d < c.ntmps then some (S.set d Ca) else none | none => some S
def DT (cf : Nat → Cx) (ops : Array Oper) : List Nat → St → Option St
 | [], S => some S
 | i :: rest, S => match ops[i]? with
  | none => none
  | some o => (CW (cf i) ops o S).bind fun S' => DT cf ops rest S'
def IN (o : Oper) : Bool :=
 match o.op with
 | .move _ | .assign _ | .pick .. | .build .. | .buildSlice .. | .nilCheck _ | .binOp .. | .unOp .. | .convert .. | .makeFunc .. | .slice .. | .fieldAddr .. | .field .. | .indexAddr .. | .index .. | .extract .. => true
 | .call k => match k.callee with
  | .builtin .len | .builtin .min | .builtin .max => true
  | _ => false
 | _ => false
def Gr (o : Oper) : Bool := match o.op with | .load .. | .lookup .. => true | _ => false
def DO (o : Oper) : Bool :=
 match o.op with
 | .alloc _ | .box .. | .makeSlice .. | .makeMap .. => true
 | .call k => match k.callee with
  | .builtin .append | .value _ => true
  | _ => false
 | _ => false
def HU (ops : Array Oper) (i : Nat) : List Nat := match ops[i]? with | some o => (o.after.toList.filter (Region.binds .any)).map (·.on) | none => []
def Gy (ops : Array Oper) : List (List Nat) :=
 (List.range ops.size).foldl (fun tab i => tab ++ [((HU ops i) ++ (HU ops i).flatMap fun e => tab.getD e []).eraseDups]) []
def YZ (ops : Array Oper) (tab : List (List Nat)) (done : List Nat) (left : List Nat) : Option Nat :=
 let ready := left.filter fun i => (HU ops i).all fun e => done.contains e
 match ready.find? (fun i => match ops[i]? with | some o => IN o || Gr o | none => false) with
 | some i => some i
 | none => ready.head?
def cT (ops : Array Oper) (tab : List (List Nat)) : Nat → List Nat → List Nat → List Nat
 | 0, done, _ => done.reverse
 | n + 1, done, left => match YZ ops tab done left with
  | some i => cT ops tab n (i :: done) (left.filter (· != i))
  | none => done.reverse
def Q1 (ops : Array Oper) : List Nat := cT ops (Gy ops) ops.size [] (List.range ops.size)
def Oz (x y : Oper) : Bool :=
 match x.op, y.op with
 | .lookup t (.tmp a) (.tmp k) false, .mapEntry t' (.tmp a') (.tmp k') => t == t' && a == a' && k == k'
 | _, _ => false
def MA {α : Type} (x : Option α) : Bool := match x with | none => true | some _ => false
def Ia (ops : Array Oper) (x y : Oper) : Bool :=
 Oper.apart ops x y && Oper.apart ops y x && (IN x || IN y || (Gr x && (Gr y || DO y)) || (Oz x y && MA x.guard && MA y.guard))
def L9 (o : Oper) : Bool := match o.op with | .alloc _ | .makeSlice .. => true | _ => false
def MN (ops : Array Oper) (tab : List (List Nat)) (j m : Nat) : Bool :=
 match ops[j]?, ops[m]? with
 | some x, some y => L9 y && MA y.guard && !MA y.dst && Oper.apart ops x y && Oper.apart ops y x && (List.range ops.size).all fun k => !(tab.getD k []).contains m || (tab.getD k []).contains j
 | _, _ => false
def K8 (ops : Array Oper) (tab : List (List Nat)) (i : Nat) : Bool :=
 (List.range ops.size).any fun j => (match ops[j]? with | some o => Gr o | none => false) && !(tab.getD i []).contains j && !(tab.getD j []).contains i
def EI (o : Oper) : Bool :=
 match o.op with
 | .call ⟨.value _, _, _⟩ => true
 | _ => false
def Cj (ops : Array Oper) (tab : List (List Nat)) : List Nat → Bool
 | [] => true
 | j :: l => (l.all fun i => i != j && !(tab.getD j []).contains i && ((tab.getD i []).contains j || MN ops tab j i || match ops[j]?, ops[i]? with | some x, some y => Ia ops x y && (!Gr x || !EI y || K8 ops tab i) | _, _ => false)) && Cj ops tab l
def Lh (ops : Array Oper) : Bool :=
 let tab := Gy ops
 let ord := Q1 ops
 (List.range ops.size).all (ord.contains ·) && ord.all (· < ops.size) &&
  (List.range ops.size).all (fun i => (HU ops i).all (· < i) && (tab.getD i []).all fun j => (HU ops i).any fun e => e == j || (tab.getD e []).contains j) && Cj ops tab ord
def Es (c : Cx) (ops : Array Oper) (i : Nat) : Cx := { c with still := true, calm := K8 ops (Gy ops) i }
inductive X where | normal | exit (id : Nat) | ret
 deriving DecidableEq
def EY (f : St → Option (X × St)) : Nat → St → Option (X × St)
 | 0, _ => none
 | n + 1, S => match f S with
  | some (.normal, S') => EY f n S'
  | r => r
def Ak (c : Cx) (n : Nat) : Code → St → Option (X × St)
 | .skip, S => some (.normal, S)
 | .region _ ops draw, S => (if draw then (if Lh ops then DT (Es c ops) ops (Q1 ops) S else none) else DT (fun _ => c) ops (List.range ops.size) S).map fun S' => (.normal, S')
 | .seq a b, S => match Ak c n a S with
  | some (.normal, S') => Ak c n b S'
  | r => r
 | .cond x t e, S => match ev S.T x with
  | some (.bool true) => Ak c n t S
  | some (.bool false) => Ak c n e S
  | _ => none
 | .block id a, S => match Ak c n a S with
  | some (.exit i, S') => if i = id then some (.normal, S') else some (.exit i, S')
  | r => r
 | .loop a, S => EY (Ak c n a) n S
 | .exit id, S => some (.exit id, S)
 | .ret, S => some (.ret, S)
 | _, _ => none
def BB (P : Program) (H : A3) (T : Nat → V) : List ResultVar → Option (List V)
 | [] => some []
 | .tmp t :: r => (BB P H T r).map (T t :: ·)
 | .cell a t :: r => (G5 P t H (T a)).bind fun v => (BB P H T r).map (v :: ·)
def Dd : List V → V
 | [v] => v
 | vs => .FH vs
def Il (vs : List V) : Nat → V := fun i => vs.getD i Ca
def MP (d : Nat) : Bp → Bp
 | .Br l n sz => .Br (min l (d - 1)) n sz
 | .cells sz cs => if cs.all (BT d) then .cells sz cs else .dead
 | x => x
def D9 (h : Bg) (k : FuncId) (base d : Nat) (v : V) (H : A3) : Option (V × A3) :=
 if h.grow k then
  if BT d v then some (v, H.take base ++ (H.drop base).map (MP d)) else none
 else (B2 (h.N4 k) base d BU (H, []) v).map fun r => (r.1, r.2.1.take base ++ r.2.2)
structure Lc where
 R0 : Code
 i : Nat
 o1 : Oper
 o2 : Oper
 p : Nat
 z : Nat
 q : Nat
 t : TypeId
 t2 : TypeId
 A : Code
 B : Code
def Ub (i : Nat) (R0 A B : Code) (q' : Nat) : List Oper → Option Lc
 | [o1, o2] => match o1.dst, o1.op, o1.guard, o2.dst, o2.op, o2.guard with
  | some p, .move (.tmp z), none, some q, .binOp .eql t (.tmp p') (.const (.slice none 0 0)) t2, none => if p = p' ∧ q = q' then some ⟨R0, i, o1, o2, p, z, q, t, t2, A, B⟩ else none
  | _, _, _, _, _, _ => none
 | _ => none
def Ef : Code → Option Lc
 | .seq R0 (.seq (.seq (.region i ops false) (.cond (.tmp q') A .skip)) B) => Ub i R0 A B q' ops.toList
 | _ => none
def KM (P : Program) (rs : List ResultVar) : Option (X × St) → Option (List V × A3)
 | some (.normal, S) | some (.ret, S) => (BB P S.H S.T rs).map fun vs => (vs, S.H)
 | _ => none
def N5 (c : Cx) (n : Nat) (rs : List ResultVar) (N : Lc) (S : St) (b : Bool) : Option (List V × A3) :=
 KM c.P rs (Ak c n (if b then .seq N.A N.B else N.B) ((S.set N.p (S.T N.z)).set N.q (.bool b)))
open Classical in
noncomputable def J5 (c : Cx) (n : Nat) (rs : List ResultVar) (body : Code) (S : St) : Option (List V × A3) :=
 match Ef body with
 | none => KM c.P rs (Ak c n body S)
 | some N => match Ak c n N.R0 S with
  | some (.normal, S0) => if N.p < c.ntmps ∧ N.q < c.ntmps ∧ N.p ≠ N.q ∧ (Ax c.P N.t).isSome = true then
    match CZ (S0.T N.z) with
    | some (_ + 1) => N5 c n rs N S0 false
    | some 0 => if N5 c n rs N S0 true = N5 c n rs N S0 false then N5 c n rs N S0 false else none
    | none => none
   else none
  | _ => none
noncomputable def DQ (P : Program) (h : Bg) : Nat → FuncId → List V → A3 → Lk → Option (V × A3)
  | 0, _, _, _, _ => none
  | n + 1, k, args, H, lk => match P.funcs[k]? with
    | some fn => match fn.body with
      | some body =>
        if args.length ≤ fn.ntmps ∧ (fn.name == "runtime.NumGoroutine") = false then
          let c : Cx := { P, hints := h, fn := k, ntmps := fn.ntmps, base := H.length, lk, Γ := DQ P h n }
          (J5 c n fn.results.toList body { T := Il args, H }).bind fun r => D9 h k H.length lk.length (Dd r.1) r.2
        else none
      | none => none
    | none => none
def Wr (φ : Nat → Nat) (H : A3) (lk : Lk) (lv g i : Nat) : Prop :=
 ∃ b, φ b = g ∧ AV lk b = true ∧ match H[b]? with
  | some (.cells _ _) | some (.mp _) => True
  | some (.Br l n sz) => lv < l ∨ n * sz ≤ i
  | _ => False
def Sr (φ : Nat → Nat) (H : A3) (g i : Nat) : Prop :=
 ∃ b, φ b = g ∧ match H[b]? with
  | some (.cells _ _) | some (.mp _) => True
  | some (.Br _ n sz) => n * sz ≤ i
  | _ => False
structure AZ where
 w : World
 φ : Nat → Nat
 H : A3
 lk : Lk
 n : Nat
 m : Nat
 Bb : List Nat
def AZ.U (E : AZ) (lv : Option Nat) (g i : Nat) : Prop :=
 g ∈ E.Bb ∨ match lv with
 | some lv => Wr E.φ E.H (E.lk.take lv) lv g i
 | none => Sr E.φ E.H g i
def PA (m : Nat) : Option Nat → Prop
 | some lv => lv ≤ m
 | none => True
def JQ (H : A3) (b : Nat) : Prop := ∀ l n sz, H[b]? ≠ some (.Br l n sz)
def JR (H : A3) (b : Nat) : Prop := ∀ sz cs, H[b]? ≠ some (.cells sz cs)
def live : Option Bp → Prop
 | some (.cells _ _) | some (.Br _ _ _) | some (.mp _) => True
 | _ => False
def AZ.Qs (E : AZ) (g : Nat) : Prop := ∀ b, E.n ≤ b → live E.H[b]? → E.φ b ≠ g
mutual
def AA (E : AZ) : V → Value → Prop
 | .int k n, v => v = .int k n
 | .bool b, v => v = .bool b
 | .str s, v => v = .string s
 | .HW, v => v = .pointer none
 | .Eg, v => v = .nilFunc
 | .ptr b off, v => b < E.n ∧ v = .pointer (some ⟨E.φ b, off, none⟩) ∧ JQ E.H b
 | .FF b, v => b < E.n ∧ v = .map (some (E.φ b)) ∧ JQ E.H b
 | .lp lv cs off, v => lv ≤ E.m ∧ ∃ g o, v = .pointer (some ⟨g, o + off, none⟩) ∧ CN E (some lv) g o cs
 | .lit lv len cs, v => lv ≤ E.m ∧ ∃ A cap, v = .slice A len cap ∧ len ≤ cap ∧ (len = 0 ∨ ∃ g o, A = some ⟨g, o, none⟩ ∧ CN E (some lv) g o cs)
 | .tl len cs, v => ∃ A, v = .slice A len len ∧ (len = 0 ∨ ∃ g o, A = some ⟨g, o, none⟩ ∧ CN E (some 0) g o cs)
 | .snap b len cs, v => b < E.n ∧ (∃ A cap, v = .slice A len cap ∧ len ≤ cap ∧ (∃ g o, A = some ⟨g, o, none⟩ ∧ (0 < cs.length → E.Qs g) ∧ CN E none g o cs) ∧
   (∀ l n sz, E.H[b]? = some (.Br l n sz) → len ≤ n ∧ (len = n → A = some ⟨E.φ b, 0, none⟩ ∧ ∃ c t, E.w.heap[E.φ b]? = some (.cells c t (0, 0)) ∧ cap * sz = c.size))) ∧ JR E.H b
 | .sl b off len, v => b < E.n ∧ (∃ cap, v = .slice (some ⟨E.φ b, off, none⟩) len cap ∧ len ≤ cap) ∧ JQ E.H b
 | .agg cs, v => ∃ vs : Array Value, v = .agg vs ∧ AP E cs vs.toList
 | .FH cs, v => ∃ vs : Array Value, v = .tuple vs ∧ AP E cs vs.toList
 | .fn f cs, v => ∃ vs : Array Value, v = .func (.func f) #[] vs ∧ AP E cs vs.toList
def CN (E : AZ) (lv : Option Nat) (g o : Nat) : List V → Prop
 | [] => True
 | c :: cs => (∃ u, E.w.cell? ⟨g, o, none⟩ = some u ∧ AA E c u) ∧ ¬ E.U lv g o ∧ CN E lv g (o + 1) cs
def AP (E : AZ) : List V → List Value → Prop
 | [], vs => vs = []
 | c :: cs, vs => ∃ u us, vs = u :: us ∧ AA E c u ∧ AP E cs us
end
structure CJ (E : AZ) : Prop where
 cells : ∀ b sz cs, E.H[b]? = some (.cells sz cs) → ∃ c t, E.w.heap[E.φ b]? = some (.cells c t (0, 0)) ∧ cs.length ≤ c.size ∧ ∀ (i : Nat) v, cs[i]? = some v → ∃ u, c[i]? = some u ∧ AA E v u
 Br : ∀ (b l n sz : Nat), E.H[b]? = some (Bp.Br l n sz) → ∃ c t, E.w.heap[E.φ b]? = some (.cells c t (0, 0)) ∧ n * sz ≤ c.size
 lvl : ∀ (b l n sz : Nat), E.H[b]? = some (Bp.Br l n sz) → l ≤ E.lk.length
 dm : E.m ≤ E.lk.length
 inj : ∀ b b', live E.H[b]? → live E.H[b']? → E.φ b = E.φ b' → b = b'
 maps : ∀ b BJ, E.H[b]? = some (.mp BJ) → E.w.heap[E.φ b]? = some (.map (FV BJ) BJ.length) ∧ ∀ x ∈ BJ, BS x.1 = true ∧ BS x.2 = true
 Bb : ∀ g ∈ E.Bb, g < E.w.heap.size ∧ ∀ b, live E.H[b]? → E.φ b ≠ g
structure Fq (E E' : AZ) : Prop where
 lk : E'.lk = E.lk
 os : E'.w.os = E.w.os
 tape : E'.w.tape = E.w.tape
 output : E'.w.output = E.w.output
 size : E.w.heap.size ≤ E'.w.heap.size
 len : E.n ≤ E'.n
 mm : E'.m = E.m
 cell : ∀ g i u, E.w.cell? ⟨g, i, none⟩ = some u → ¬ E.U (some E.lk.length) g i → E'.w.cell? ⟨g, i, none⟩ = some u
 block : ∀ g, g < E.w.heap.size → (∀ i, ¬ E.U (some E.lk.length) g i) → E'.w.heap[g]? = E.w.heap[g]?
 mono : ∀ lv g i, PA E.lk.length lv → E'.U lv g i → E.U lv g i ∨ E.w.heap.size ≤ g
 CI : ∀ b, b < E.n → JQ E.H b → E'.φ b = E.φ b ∧ JQ E'.H b
 cells : ∀ b, b < E.n → JR E.H b → JR E'.H b
 Br : ∀ (b l n' sz' : Nat), b < E.n → E'.H[b]? = some (Bp.Br l n' sz') → ∃ n, E.H[b]? = some (.Br l n sz') ∧ n ≤ n' ∧
  (n = n' → E'.φ b = E.φ b ∧ ∀ c t, E.w.heap[E.φ b]? = some (.cells c t (0, 0)) → ∃ c', E'.w.heap[E.φ b]? = some (.cells c' t (0, 0)) ∧ c'.size = c.size)
 fresh : ∀ b, live E'.H[b]? → (E'.φ b = E.φ b ∧ live E.H[b]?) ∨ E.w.heap.size ≤ E'.φ b
 Bb : ∀ g, g ∈ E.Bb → g ∈ E'.Bb
 Hr : ∀ g, g ∈ E'.Bb → g ∈ E.Bb ∨ E.w.heap.size ≤ g
 H5 : ∀ g, g ∈ E.Bb → g < E.w.heap.size → E'.w.heap[g]? = E.w.heap[g]?
theorem Eh {lk : Lk} {b : Nat} (n : Nat) (h : AV lk b = true) : AV (lk.take n) b = true := by
 unfold AV at *
 rw [List.all_eq_true] at *
 exact fun x hx => h x (List.mem_of_mem_take hx)
theorem Ma {lk : Lk} {b n m : Nat} (hnm : n ≤ m) (h : AV (lk.take m) b = true) : AV (lk.take n) b = true := by
 unfold AV at *
 rw [List.all_eq_true] at *
 intro x hx
 refine h x ?_
 rw [show lk.take n = (lk.take m).take n by rw [List.take_take, Nat.min_eq_left hnm]] at hx
 exact List.mem_of_mem_take hx
theorem AZ.Qq {E : AZ} {lv lv' g i : Nat} (hl : lv ≤ lv') (h : E.U (some lv') g i) : E.U (some lv) g i := by
 rcases h with h | h
 ·exact .inl h
 obtain ⟨b, h1, h2, h3⟩ := h
 refine .inr ⟨b, h1, Ma hl h2, ?_⟩
 split at h3
 ·trivial
 ·trivial
 ·rcases h3 with h3 | h3
  ·exact .inl (Nat.lt_of_le_of_lt hl h3)
  ·exact .inr h3
 ·exact h3.elim
theorem CJ.sub {E : AZ} (h : CJ E) {lv g i : Nat} (hl : E.lk.length ≤ lv) (hu : E.U (some lv) g i) : E.U none g i := by
 rcases hu with hu | hu
 ·exact .inl hu
 obtain ⟨b, h1, h2, h3⟩ := hu
 refine .inr ⟨b, h1, ?_⟩
 split at h3
 ·trivial
 ·trivial
 ·rename_i he
  rcases h3 with h3 | h3
  ·have := h.lvl _ _ _ _ he; omega
  ·exact h3
 ·exact h3.elim
theorem GM {w : World} {a : Addr} {v : Value} (h : w.cell? a = some v) : a.block < w.heap.size := block_lt_of_cell h
theorem Fq.refl (E : AZ) : Fq E E where
 lk := rfl
 os := rfl
 tape := rfl
 output := rfl
 size := Nat.le_refl _
 len := Nat.le_refl _
 mm := rfl
 cell := fun _ _ _ h _ => h
 block := fun _ _ _ => rfl
 mono := fun _ _ _ _ h => .inl h
 CI := fun _ _ h => ⟨rfl, h⟩
 cells := fun _ _ h => h
 Br := fun _ _ n _ _ h => ⟨n, h, Nat.le_refl _, fun _ => ⟨rfl, fun c _ hc => ⟨c, hc, rfl⟩⟩⟩
 fresh := fun _ h => .inl ⟨rfl, h⟩
 Bb := fun _ h => h
 Hr := fun _ h => .inl h
 H5 := fun _ _ _ => rfl
theorem Fq.trans {A B C : AZ} (h : Fq A B) (k : Fq B C) : Fq A C where
 lk := k.lk.trans h.lk
 os := k.os.trans h.os
 tape := k.tape.trans h.tape
 output := k.output.trans h.output
 size := Nat.le_trans h.size k.size
 len := Nat.le_trans h.len k.len
 mm := k.mm.trans h.mm
 cell := by
  intro g i u hc hu
  refine k.cell g i u (h.cell g i u hc hu) ?_
  rw [h.lk]
  intro hB
  rcases h.mono (some _) _ _ (Nat.le_refl _) hB with h' | h'
  ·exact hu h'
  ·exact absurd (GM hc) (Nat.not_lt.2 h')
 block := by
  intro g hg hu
  rw [k.block g (Nat.lt_of_lt_of_le hg h.size), h.block g hg hu]
  intro i
  rw [h.lk]
  intro hB
  rcases h.mono (some _) _ _ (Nat.le_refl _) hB with h' | h'
  ·exact hu i h'
  ·exact absurd hg (Nat.not_lt.2 h')
 mono := by
  intro lv g i hl hC
  rcases k.mono _ _ _ (by rw [h.lk]; exact hl) hC with h' | h'
  ·exact h.mono _ _ _ hl h'
  ·exact .inr (Nat.le_trans h.size h')
 CI := by
  intro b hb hn
  obtain ⟨h1, h2⟩ := h.CI b hb hn
  obtain ⟨k1, k2⟩ := k.CI b (Nat.lt_of_lt_of_le hb h.len) h2
  exact ⟨k1.trans h1, k2⟩
 cells := fun b hb hn => k.cells b (Nat.lt_of_lt_of_le hb h.len) (h.cells b hb hn)
 Br := by
  intro b l n' sz' hb hC
  obtain ⟨m, hm, hle, hk⟩ := k.Br b l n' sz' (Nat.lt_of_lt_of_le hb h.len) hC
  obtain ⟨n, hn, hle', hk'⟩ := h.Br b l m sz' hb hm
  refine ⟨n, hn, Nat.le_trans hle' hle, fun e => ?_⟩
  have e1 : n = m := by omega
  have e2 : m = n' := by omega
  obtain ⟨p1, p2⟩ := hk' e1
  obtain ⟨q1, q2⟩ := hk e2
  refine ⟨q1.trans p1, fun c t hc => ?_⟩
  obtain ⟨c1, hc1, hs1⟩ := p2 c t hc
  rw [p1] at q2
  obtain ⟨c2, hc2, hs2⟩ := q2 c1 t hc1
  exact ⟨c2, hc2, hs2.trans hs1⟩
 fresh := by
  intro b hC
  rcases k.fresh b hC with ⟨h1, h2⟩ | h1
  ·rcases h.fresh b h2 with ⟨h3, h4⟩ | h3
   ·exact .inl ⟨h1.trans h3, h4⟩
   ·rw [← h1] at h3; exact .inr h3
  ·exact .inr (Nat.le_trans h.size h1)
 Bb := fun g hg => k.Bb g (h.Bb g hg)
 Hr := by
  intro g hg
  rcases k.Hr g hg with h1 | h1
  ·exact h.Hr g h1
  ·exact .inr (Nat.le_trans h.size h1)
 H5 := fun g hg hl => (k.H5 g (h.Bb g hg) (Nat.lt_of_lt_of_le hl h.size)).trans (h.H5 g hg hl)
structure CX (E E' : AZ) : Prop where
 len : E.n ≤ E'.n
 lvl : E.m ≤ E'.m
 cell : ∀ lv g i u, PA E.m lv → (lv = none → E.Qs g) → E.w.cell? ⟨g, i, none⟩ = some u → ¬ E.U lv g i → E'.w.cell? ⟨g, i, none⟩ = some u ∧ ¬ E'.U lv g i
 CI : ∀ b, b < E.n → JQ E.H b → E'.φ b = E.φ b ∧ JQ E'.H b
 cells : ∀ b, b < E.n → JR E.H b → JR E'.H b
 Br : ∀ (b l n' sz' : Nat), b < E.n → E'.H[b]? = some (Bp.Br l n' sz') → ∃ l0 n, E.H[b]? = some (.Br l0 n sz') ∧ n ≤ n' ∧
  (n = n' → E'.φ b = E.φ b ∧ ∀ c t, E.w.heap[E.φ b]? = some (.cells c t (0, 0)) → ∃ c', E'.w.heap[E.φ b]? = some (.cells c' t (0, 0)) ∧ c'.size = c.size)
 fresh : ∀ b g i u, E.w.cell? ⟨g, i, none⟩ = some u → ¬ E.U none g i → E'.n ≤ b → live E'.H[b]? → E'.φ b = g → ∃ b', E.n ≤ b' ∧ live E.H[b']? ∧ E.φ b' = g
theorem PA.up {m m' : Nat} {lv : Option Nat} (h : PA m lv) (hm : m ≤ m') : PA m' lv := by
 cases lv with
 | none => trivial
 | some l => exact Nat.le_trans h hm
theorem Fq.keeps {E E' : AZ} (h : Fq E E') (hh : CJ E) : CX E E' where
 len := h.len
 lvl := by rw [h.mm]; exact Nat.le_refl _
 CI := h.CI
 cells := h.cells
 Br := fun b l n' sz' hb hB => let ⟨n, h1, h2, h3⟩ := h.Br b l n' sz' hb hB; ⟨l, n, h1, h2, h3⟩
 cell := by
  intro lv g i u hlv _ h1 h3
  refine ⟨h.cell g i u h1 (fun hu => h3 ?_), fun hu => ?_⟩
  ·cases lv with
   | none => exact hh.sub (Nat.le_refl _) hu
   | some lv => exact AZ.Qq (Nat.le_trans hlv hh.dm) hu
  ·rcases h.mono _ _ _ (hlv.up hh.dm) hu with h' | h'
   ·exact h3 h'
   ·exact absurd (GM h1) (Nat.not_lt.2 h')
 fresh := by
  intro b g i u h1 _ hb hl he
  rcases h.fresh b hl with ⟨h2, h3⟩ | h2
  ·exact ⟨b, Nat.le_trans h.len hb, h3, by rw [← h2]; exact he⟩
  ·exact absurd (GM h1) (Nat.not_lt.2 (by rw [← he]; exact h2))
theorem CX.Dk (E : AZ) (L : List Nat) (hd : E.m ≤ E.lk.length) : CX E { E with lk := E.lk ++ [L], m := E.m + 1 } where
 len := Nat.le_refl _
 lvl := Nat.le_succ _
 CI := fun _ _ h => ⟨rfl, h⟩
 cells := fun _ _ h => h
 Br := fun _ l n _ _ h => ⟨l, n, h, Nat.le_refl _, fun _ => ⟨rfl, fun c _ hc => ⟨c, hc, rfl⟩⟩⟩
 cell := by
  intro lv g i u hlv _ h1 h3
  refine ⟨h1, fun hu => h3 ?_⟩
  cases lv with
  | none => exact hu
  | some lv =>
   have hle : lv ≤ E.lk.length := Nat.le_trans hlv hd
   rcases hu with hu | hu
   ·exact .inl hu
   obtain ⟨b, p1, p2, p3⟩ := hu
   refine .inr ⟨b, p1, ?_, p3⟩
   have : (E.lk ++ [L]).take lv = E.lk.take lv := List.take_append_of_le_length hle
   rw [← this]
   exact p2
 fresh := fun b _ _ _ _ _ hb hl he => ⟨b, hb, hl, he⟩
theorem CX.Qs {E E' : AZ} (h : CX E E') {g i : Nat} {u : Value} (hc : E.w.cell? ⟨g, i, none⟩ = some u) (hu : ¬ E.U none g i) (ha : E.Qs g) : E'.Qs g := by
 intro b hb hl he
 obtain ⟨b', h1, h2, h3⟩ := h.fresh b g i u hc hu hb hl he
 exact ha b' h1 h2 h3
theorem CN.first {E : AZ} {lv : Option Nat} {g o : Nat} {cs : List V} (h : CN E lv g o cs) (hl : 0 < cs.length) : ∃ u, E.w.cell? ⟨g, o, none⟩ = some u ∧ ¬ E.U lv g o := by
 cases cs with
 | nil => simp at hl
 | cons c cs =>
  simp only [CN] at h
  obtain ⟨⟨u, h1, _⟩, h2, _⟩ := h
  exact ⟨u, h1, h2⟩
mutual
theorem CX.rep {E E' : AZ} (h : CX E E') : ∀ (v : V) (u : Value), AA E v u → AA E' v u
 | .int .., _, r => by simpa only [AA] using r
 | .bool _, _, r => by simpa only [AA] using r
 | .str _, _, r => by simpa only [AA] using r
 | .HW, _, r => by simpa only [AA] using r
 | .Eg, _, r => by simpa only [AA] using r
 | .ptr b off, _, r => by
  simp only [AA] at r ⊢
  obtain ⟨h1, h2, h3⟩ := r
  obtain ⟨p1, p2⟩ := h.CI b h1 h3
  exact ⟨Nat.lt_of_lt_of_le h1 h.len, by rw [p1]; exact h2, p2⟩
 | .FF b, _, r => by
  simp only [AA] at r ⊢
  obtain ⟨h1, h2, h3⟩ := r
  obtain ⟨p1, p2⟩ := h.CI b h1 h3
  exact ⟨Nat.lt_of_lt_of_le h1 h.len, by rw [p1]; exact h2, p2⟩
 | .lp lv cs off, _, r => by
  simp only [AA] at r ⊢
  obtain ⟨hl, g, o, h1, h2⟩ := r
  exact ⟨Nat.le_trans hl h.lvl, g, o, h1, h.Yf (some lv) g hl o cs (fun e => by cases e) h2⟩
 | .lit lv len cs, _, r => by
  simp only [AA] at r ⊢
  obtain ⟨hl, A, cap, h1, h2, h3⟩ := r
  refine ⟨Nat.le_trans hl h.lvl, A, cap, h1, h2, ?_⟩
  rcases h3 with h3 | ⟨g, o, h3, h4⟩
  ·exact .inl h3
  ·exact .inr ⟨g, o, h3, h.Yf (some lv) g hl o cs (fun e => by cases e) h4⟩
 | .tl len cs, _, r => by
  simp only [AA] at r ⊢
  obtain ⟨A, h1, h3⟩ := r
  refine ⟨A, h1, ?_⟩
  rcases h3 with h3 | ⟨g, o, h3, h4⟩
  ·exact .inl h3
  ·exact .inr ⟨g, o, h3, h.Yf (some 0) g (Nat.zero_le _) o cs (fun e => by cases e) h4⟩
 | .snap b len cs, _, r => by
  simp only [AA] at r ⊢
  obtain ⟨hb, ⟨A, cap, h1, h2, ⟨g, o, h3, ha, h4⟩, h5⟩, h6⟩ := r
  refine ⟨Nat.lt_of_lt_of_le hb h.len, ⟨A, cap, h1, h2, ⟨g, o, h3, fun hl => (h4.first hl).elim fun u hu => h.Qs hu.1 hu.2 (ha hl), h.Yf none g trivial o cs (fun _ => ha) h4⟩, fun l n sz hn => ?_⟩, h.cells b hb h6⟩
  obtain ⟨l0, m, hm, hle, hk⟩ := h.Br b l n sz hb hn
  obtain ⟨q1, q2⟩ := h5 l0 m sz hm
  refine ⟨Nat.le_trans q1 hle, fun e => ?_⟩
  obtain ⟨p1, p2⟩ := hk (by omega)
  obtain ⟨q3, c, t, q4, q5⟩ := q2 (by omega)
  obtain ⟨c', hc', hs⟩ := p2 c t q4
  exact ⟨by rw [p1]; exact q3, c', t, by rw [p1]; exact hc', by rw [hs]; exact q5⟩
 | .sl b off len, _, r => by
  simp only [AA] at r ⊢
  obtain ⟨h1, h2, h3⟩ := r
  obtain ⟨p1, p2⟩ := h.CI b h1 h3
  exact ⟨Nat.lt_of_lt_of_le h1 h.len, by rw [p1]; exact h2, p2⟩
 | .agg cs, _, r => by
  simp only [AA] at r ⊢
  obtain ⟨vs, h1, h2⟩ := r
  exact ⟨vs, h1, h.Hv cs _ h2⟩
 | .FH cs, _, r => by
  simp only [AA] at r ⊢
  obtain ⟨vs, h1, h2⟩ := r
  exact ⟨vs, h1, h.Hv cs _ h2⟩
 | .fn f cs, _, r => by
  simp only [AA] at r ⊢
  obtain ⟨vs, h1, h2⟩ := r
  exact ⟨vs, h1, h.Hv cs _ h2⟩
theorem CX.Yf {E E' : AZ} (h : CX E E') (lv : Option Nat) (g : Nat) (hlv : PA E.m lv) : ∀ (o : Nat) (cs : List V), (lv = none → 0 < cs.length → E.Qs g) → CN E lv g o cs → CN E' lv g o cs
 | _, [], _, _ => by simp only [CN]
 | o, c :: cs, ha, r => by
  simp only [CN] at r ⊢
  obtain ⟨⟨u, h1, h2⟩, h3, h4⟩ := r
  obtain ⟨k1, k2⟩ := h.cell lv g o u hlv (fun e => ha e (by simp)) h1 h3
  exact ⟨⟨u, k1, h.rep c u h2⟩, k2, h.Yf lv g hlv (o + 1) cs (fun e _ => ha e (by simp)) h4⟩
theorem CX.Hv {E E' : AZ} (h : CX E E') : ∀ (cs : List V) (vs : List Value), AP E cs vs → AP E' cs vs
 | [], _, r => by simpa only [AP] using r
 | c :: cs, _, r => by
  simp only [AP] at r ⊢
  obtain ⟨u, us, h1, h2, h3⟩ := r
  exact ⟨u, us, h1, h.rep c u h2, h.Hv cs us h3⟩
end
def AZ.shrink (E : AZ) (n m : Nat) : AZ := { E with n := n, m := m }
theorem CX.grow (E : AZ) {n m : Nat} (hn : n ≤ E.n) (hm : m ≤ E.m) : CX (E.shrink n m) E where
 len := hn
 lvl := hm
 CI := fun _ _ h => ⟨rfl, h⟩
 cells := fun _ _ h => h
 Br := fun _ l k _ _ h => ⟨l, k, h, Nat.le_refl _, fun _ => ⟨rfl, fun c _ hc => ⟨c, hc, rfl⟩⟩⟩
 cell := fun _ _ _ _ _ _ h k => ⟨h, k⟩
 fresh := fun b _ _ _ _ _ hb hl he => ⟨b, Nat.le_trans hn hb, hl, he⟩
theorem Fq.shrink {E E' : AZ} (h0 : Fq E E') (hh : CJ E) {n m : Nat} (hn : n ≤ E.n) (hm : m ≤ E.m) : CX (E.shrink n m) (E'.shrink n m) where
 len := Nat.le_refl _
 lvl := Nat.le_refl _
 CI := fun b hb => h0.CI b (Nat.lt_of_lt_of_le hb hn)
 cells := fun b hb => h0.cells b (Nat.lt_of_lt_of_le hb hn)
 Br := fun b l n' sz' hb => (h0.keeps hh).Br b l n' sz' (Nat.lt_of_lt_of_le hb hn)
 cell := fun lv g i u hlv _ h1 h3 => by
  have hl : PA E.m lv := PA.up hlv hm
  refine ⟨h0.cell g i u h1 (fun hu => h3 ?_), fun hu => ?_⟩
  ·cases lv with
   | none => exact hh.sub (Nat.le_refl _) hu
   | some lv => exact AZ.Qq (E := E) (Nat.le_trans hl hh.dm) hu
  ·rcases h0.mono _ _ _ (hl.up hh.dm) hu with h' | h'
   ·exact h3 h'
   ·exact absurd (GM h1) (Nat.not_lt.2 h')
 fresh := by
  intro b g i u h1 _ hb hl he
  rcases h0.fresh b hl with ⟨h2, h3⟩ | h2
  ·exact ⟨b, hb, h3, by show E.φ b = g; rw [← h2]; exact he⟩
  ·exact absurd (GM h1) (Nat.not_lt.2 (by rw [← he]; exact h2))
theorem Fq.rep {E E' : AZ} (h : Fq E E') (hh : CJ E) (v : V) (u : Value) (r : AA E v u) : AA E' v u := (h.keeps hh).rep v u r
theorem Fq.Hv {E E' : AZ} (h : Fq E E') (hh : CJ E) (cs : List V) (vs : List Value) (r : AP E cs vs) : AP E' cs vs := (h.keeps hh).Hv cs vs r
theorem PT (E : AZ) (x : Value) (v : V) (h : DP x = some v) : AA E v x := by
 cases x with
 | int k n => simp only [DP, Option.some.injEq] at h; subst h; simp only [AA]
 | bool b => simp only [DP, Option.some.injEq] at h; subst h; simp only [AA]
 | string s => simp only [DP, Option.some.injEq] at h; subst h; simp only [AA]
 | pointer p => cases p with
  | none => simp only [DP, Option.some.injEq] at h; subst h; simp only [AA]
  | some a => simp [DP] at h
 | slice p n m =>
  simp only [DP] at h
  split at h <;> simp_all
  subst h
  simp only [AA]
  exact ⟨none, rfl, .inl trivial⟩
 | nilFunc => simp only [DP, Option.some.injEq] at h; subst h; simp only [AA]
 | _ => simp [DP] at h
theorem Mr (E : AZ) : ∀ (xs : List Value) (vs : List V), LL xs = some vs → AP E vs xs
 | [], vs, h => by simp only [LL, Option.some.injEq] at h; subst h; simp only [AP]
 | x :: xs, vs, h => by
  simp only [LL, Option.bind_eq_some_iff, Option.map_eq_some_iff] at h
  obtain ⟨v, hv, ws, hw, rfl⟩ := h
  simp only [AP]
  exact ⟨x, xs, rfl, PT E x v hv, Mr E xs ws hw⟩
theorem HO (E : AZ) (x : Value) (v : V) (h : E8 x = some v) : AA E v x := by
 cases x with
 | agg cs =>
  simp only [E8, Option.map_eq_some_iff] at h
  obtain ⟨vs, hv, rfl⟩ := h
  simp only [AA]
  exact ⟨cs, rfl, Mr E _ _ hv⟩
 | _ => exact PT E _ v (by simpa only [E8] using h)
structure Cc (c : Cx) (E : AZ) (S : St) (a : Act) : Prop where
 H : E.H = S.H
 lk : E.lk = c.lk
 n : E.n = S.H.length
 m : E.m = c.lk.length
 tmps : ∀ i, AA E (S.T i) (a.tmps.getD i undef)
 size : a.tmps.size = c.ntmps
 heap : CJ E
 base : c.base ≤ S.H.length
 Dk : ∀ l ∈ c.lk, ∀ x ∈ l, x < c.base
 deep : 0 < c.lk.length
theorem B5 {c : Cx} {E : AZ} {S : St} {a : Act} (hs : Cc c E S a) (x : Operand) (v : V) (h : ev S.T x = some v) : AA E v (a.eval x) := by
 cases x with
 | tmp t => simp only [ev, Option.some.injEq] at h; subst h; exact hs.tmps t
 | const c => exact HO E c v h
 | global g => simp [ev] at h
 | func f =>
  simp only [ev, Option.some.injEq] at h; subst h
  simp only [AA, Act.eval]
  exact ⟨#[], rfl, by simp only [AP]⟩
theorem S4 {c : Cx} {E : AZ} {S : St} {a : Act} (hs : Cc c E S a) : ∀ (xs : List Operand) (vs : List V), KC S.T xs = some vs → AP E vs (xs.map a.eval)
 | [], vs, h => by simp only [KC, Option.some.injEq] at h; subst h; simp only [AP, List.map_nil]
 | x :: xs, vs, h => by
  simp only [KC, Option.bind_eq_some_iff, Option.map_eq_some_iff] at h
  obtain ⟨v, hv, ws, hw, rfl⟩ := h
  simp only [AP, List.map_cons]
  exact ⟨_, _, rfl, B5 hs x v hv, S4 hs xs ws hw⟩
def DG (c : Cx) (E : AZ) (a : Act) (o : Oper) (v : V) : Prop :=
 ∃ u, (execOp a.eval o).run c.P E.w = .ok (.value u) E.w ∧ AA E v u
section
variable {c : Cx} {E : AZ} {S : St} {a : Act} {o : Oper}
theorem UH (hs : Cc c E S a) {x : Operand} {v : V} (ho : o.op = .move x) (h : ev S.T x = some v) : DG c E a o v :=
 ⟨a.eval x, by simp [execOp, ho], B5 hs x v h⟩
theorem Rb (hs : Cc c E S a) {x : Operand} {v : V} (ho : o.op = .assign x) (h : ev S.T x = some v) : DG c E a o v :=
 ⟨a.eval x, by simp [execOp, ho], B5 hs x v h⟩
theorem Oq (hs : Cc c E S a) {k x y : Operand} {b : Bool} {v : V} (ho : o.op = .pick k x y) (hk : ev S.T k = some (.bool b)) (h : ev S.T (if b then x else y) = some v) : DG c E a o v := by
 have hb := B5 hs k _ hk
 simp only [AA] at hb
 refine ⟨_, ?_, B5 hs _ v h⟩
 simp only [execOp, ho, hb, asBool]
 cases b <;> simp
theorem KQ (hs : Cc c E S a) {x : Operand} {b off : Nat} (ho : o.op = .nilCheck x) (h : ev S.T x = some (.ptr b off)) : DG c E a o (.ptr b off) := by
 have hr := B5 hs x _ h
 have hr' := hr
 simp only [AA] at hr'
 refine ⟨a.eval x, ?_, hr⟩
 simp [execOp, ho, hr'.2.1]
theorem L5 (hs : Cc c E S a) {x : Operand} {lv off : Nat} {cs : List V} (ho : o.op = .nilCheck x) (h : ev S.T x = some (.lp lv cs off)) : DG c E a o (.lp lv cs off) := by
 have hr := B5 hs x _ h
 have hr' := hr
 simp only [AA] at hr'
 obtain ⟨_, g, o', h1, _⟩ := hr'
 refine ⟨a.eval x, ?_, hr⟩
 simp [execOp, ho, h1]
theorem UI (hs : Cc c E S a) {op : UnOp} {t : TypeId} {x : Operand} {u v : V} (ho : o.op = .unOp op t x) (hx : ev S.T x = some u) (h : lO op u = some v) : DG c E a o v := by
 have hr := B5 hs x _ hx
 unfold lO at h
 split at h <;> simp only [Option.some.injEq, reduceCtorEq] at h
 ·subst h
  simp only [AA] at hr
  exact ⟨_, by simp only [execOp, ho, hr, Op.unary, Sem.run_bind, Sem.run_pure, Result.andThen_ok]; rfl, by simp only [AA]⟩
 ·subst h
  simp only [AA] at hr
  exact ⟨_, by simp only [execOp, ho, hr, Op.unary, Op.intArith, Sem.run_bind, Sem.run_pure, Result.andThen_ok]; rfl, by simp only [AA]⟩
theorem WR {P : Program} {w : World} {op : BinOp} {t : TypeId} {k : IntKind} {a b : Int} {v : V} (h : VW op k a b = some v) :
  ∃ u, (binOp op t (.int k a) (.int k b)).run P w = .ok u w ∧ ∀ E, AA E v u := by
 unfold VW at h
 split at h
 case h_6 => simp only [Option.some.injEq] at h; subst h; exact ⟨_, by simp only [binOp_xor, Op.intBits, Sem.run_pure]; rfl, fun E => by simp only [AA]⟩
 case h_4 =>
  split at h <;> simp only [Option.some.injEq, reduceCtorEq] at h
  rename_i hb
  subst h; exact ⟨_, by simp only [binOp_quo, Op.intDiv, hb, if_false, Sem.run_pure]; rfl, fun E => by simp only [AA]⟩
 case h_5 =>
  split at h <;> simp only [Option.some.injEq, reduceCtorEq] at h
  rename_i hb
  subst h; exact ⟨_, by simp only [binOp_rem, Op.intDiv, hb, if_false, Sem.run_pure]; rfl, fun E => by simp only [AA]⟩
 all_goals (try simp only [Option.some.injEq, reduceCtorEq] at h)
 all_goals (subst h; exact ⟨_, by simp only [binOp_add, binOp_sub, binOp_mul, binOp_eql, binOp_neq, binOp_lss, binOp_leq, binOp_gtr, binOp_geq, Op.intArith, Sem.run_pure]; rfl, fun E => by simp only [AA]⟩)
theorem Ur {P : Program} {w : World} {t : TypeId} (a b : Bool) (ht : P.underlying t = some .bool) : (binOp .eql t (.bool a) (.bool b)).run P w = .ok (.bool (a == b)) w := by
 simp only [binOp, Op.equal, Op.maxDepth, Sem.run_bind, run_equalIn_bool' w 9999 t a b ht, Result.andThen_ok, Sem.run_pure]
theorem TJ {P : Program} {w : World} {t : TypeId} (a b : Bool) (ht : P.underlying t = some .bool) : (binOp .neq t (.bool a) (.bool b)).run P w = .ok (.bool (!(a == b))) w := by
 simp only [binOp, Op.equal, Op.maxDepth, Sem.run_bind, run_equalIn_bool' w 9999 t a b ht, Result.andThen_ok, Sem.run_pure]
theorem BP {E : AZ} : ∀ (xs : List V) (us : List Value), AP E xs us → xs.length = us.length ∧ ∀ (i : Nat) v, xs[i]? = some v → ∃ u, us[i]? = some u ∧ AA E v u
 | [], us, h => by simp only [AP] at h; subst h; exact ⟨rfl, fun i v h => by simp at h⟩
 | x :: xs, us, h => by
  simp only [AP] at h
  obtain ⟨u, us', rfl, h1, h2⟩ := h
  obtain ⟨hl, hg⟩ := BP xs us' h2
  refine ⟨by simp [hl], fun i v hi => ?_⟩
  cases i with
  | zero => simp only [List.getElem?_cons_zero, Option.some.injEq] at hi; subst hi; exact ⟨u, rfl, h1⟩
  | succ i => simpa using hg i v (by simpa using hi)
theorem GU {P : Program} {w : World} {t : TypeId} (h : Cp P t = some false) : (isAgg t).run P w = .ok false w := by
 unfold Cp at h
 unfold isAgg
 split at h
 ·simp at h
 ·simp at h
 ·rename_i d h1 h2 hd
  simp only [Sem.run_bind, run_underlying hd, Result.andThen_ok]
  cases d <;> first | (exact absurd rfl (h1 _)) | (exact absurd rfl (h2 _ _)) | simp only [Sem.run_pure]
 ·simp at h
theorem K6 {P : Program} {w : World} {t : TypeId} (h : Cp P t = some true) : (isAgg t).run P w = .ok true w := by
 unfold Cp at h
 unfold isAgg
 split at h
 ·rename_i d hd; simp only [Sem.run_bind, run_underlying hd, Result.andThen_ok, Sem.run_pure]
 ·rename_i hd; simp only [Sem.run_bind, run_underlying hd, Result.andThen_ok, Sem.run_pure]
 ·simp at h
 ·simp at h
theorem EM {P : Program} {w : World} {t : TypeId} {n : Nat} (h : B3 P t = some n) : (sizeOf t).run P w = .ok n w := by
 unfold B3 at h
 simp only [Option.map_eq_some_iff] at h
 obtain ⟨i, hi, rfl⟩ := h
 simp [sizeOf, typeInfo, hi]
theorem Mc {P : Program} {t : TypeId} {k : Sc} (h : EW P t = some k) : Cp P t = some false := by
 unfold EW at h
 unfold Cp
 split at h <;> simp_all
theorem Ut {P : Program} {w : World} {E : AZ} {t : TypeId} {k : Sc} (hk : EW P t = some k) (x y : V) (u v : Value) (hx : AA E x u) (hy : AA E y v) (b : Bool) (h : Et k x y = some b) (d : Nat) :
  (Op.equalIn (d + 1) t u v).run P w = .ok b w := by
 unfold Et at h
 unfold EW at hk
 split at h
 ·split at h <;> simp only [Option.some.injEq, reduceCtorEq] at h
  rename_i hkk
  subst hkk h
  simp only [AA] at hx hy
  subst hx hy
  split at hk <;> simp only [Option.some.injEq, reduceCtorEq] at hk
  rename_i ht
  exact run_equalIn_int w d t _ _ _ _ ht
 ·simp only [Option.some.injEq] at h
  subst h
  simp only [AA] at hx hy
  subst hx hy
  split at hk <;> simp only [Option.some.injEq, reduceCtorEq] at hk
  rename_i ht
  exact run_equalIn_bool' w d t _ _ ht
 ·simp only [Option.some.injEq] at h
  subst h
  simp only [AA] at hx hy
  subst hx hy
  split at hk <;> simp only [Option.some.injEq, reduceCtorEq] at hk
  rename_i ht
  exact run_equalIn_string w d t _ _ ht
 ·simp at h
theorem IX {P : Program} {w : World} {E : AZ} (d : Nat) (us vs : Array Value) : ∀ (fs : List Field) (n : Nat) (ks : List Sc) (xs ys : List V) (b : Bool),
  EG P n fs = some ks → AP E xs (us.toList.drop n) → AP E ys (vs.toList.drop n) → Ck ks xs ys = some b → (Op.eqFields (d + 1) us vs fs).run P w = .ok b w
 | [], n, ks, xs, ys, b, hf, hx, hy, h => by
  simp only [EG, Option.some.injEq] at hf
  subst hf
  simp only [Ck, Option.some.injEq] at h
  subst h
  simp only [Op.eqFields, Sem.run_pure]
 | f :: fs, n, ks, xs, ys, b, hf, hx, hy, h => by
  simp only [EG] at hf
  split at hf <;> simp only [Option.bind_eq_some_iff, Option.map_eq_some_iff, reduceCtorEq] at hf
  rename_i hc
  obtain ⟨hn, ho, hz⟩ := hc
  obtain ⟨k, hk, ks', hks, rfl⟩ := hf
  cases xs with
  | nil => simp [Ck] at h
  | cons x xs =>
   cases ys with
   | nil => simp [Ck] at h
   | cons y ys =>
    simp only [Ck, Option.bind_eq_some_iff] at h
    obtain ⟨b1, hb1, h⟩ := h
    simp only [AP] at hx hy
    obtain ⟨u, us', hu, hxu, hxs⟩ := hx
    obtain ⟨v, vs', hv, hyv, hys⟩ := hy
    have hu0 : us[n]? = some u := by
     have := congrArg (fun l => l[0]?) hu
     simpa using this
    have hv0 : vs[n]? = some v := by
     have := congrArg (fun l => l[0]?) hv
     simpa using this
    have hus : us.toList.drop (n + 1) = us' := by
     have := congrArg List.tail hu
     simpa using this
    have hvs : vs.toList.drop (n + 1) = vs' := by
     have := congrArg List.tail hv
     simpa using this
    have hag := GU (P := P) (w := w) (Mc hk)
    simp only [Op.eqFields, hn, ne_eq, not_false_eq_true, if_true, Sem.run_bind, part, hag, Result.andThen_ok, Bool.false_eq_true, if_false, ho, hu0, hv0, Sem.run_pure, Ut hk x y u v hxu hyv b1 hb1 d]
    cases b1 with
    | false => simp at h; subst h; simp
    | true =>
     simp only [if_true] at h
     have ih := IX (P := P) (w := w) d us vs fs (n + 1) ks' xs ys b hks (by rw [hus]; exact hxs) (by rw [hvs]; exact hys) h
     simpa using ih
theorem Sl (hs : Cc c E S a) {op : BinOp} {t t2 : TypeId} {x y : Operand} {p q v : V} (ho : o.op = .binOp op t x y t2) (hx : ev S.T x = some p) (hy : ev S.T y = some q)
  (h : Pl c.P op t p q = some v) : DG c E a o v := by
 have hrx := B5 hs x _ hx
 have hry := B5 hs y _ hy
 unfold Pl at h
 split at h
 ·split at h
  case isFalse => simp at h
  rename_i hk
  subst hk
  simp only [AA] at hrx hry
  obtain ⟨u, hu, hr⟩ := WR (P := c.P) (w := E.w) (t := t) h
  exact ⟨u, by simp only [execOp, ho, hrx, hry, eqGuard_at_int, Sem.run_bind, Sem.run_pure, Result.andThen_ok, hu], hr E⟩
 ·simp only [AA] at hrx hry
  split at h <;> simp only [Option.some.injEq, reduceCtorEq] at h
  ·rename_i ht
   subst h
   exact ⟨_, by simp only [execOp, ho, hrx, hry, eqGuard_at_bool, Sem.run_bind, Sem.run_pure, Result.andThen_ok, Ur _ _ ht]; rfl, by simp only [AA]⟩
  ·rename_i ht
   subst h
   exact ⟨_, by simp only [execOp, ho, hrx, hry, eqGuard_at_bool, Sem.run_bind, Sem.run_pure, Result.andThen_ok, TJ _ _ ht]; rfl, by simp only [AA]⟩
 ·simp only [AA] at hrx hry
  split at h
  ·simp only [Option.some.injEq] at h
   subst h
   exact ⟨_, by simp only [execOp, ho, hrx, hry, eqGuard_at_string, Sem.run_bind, Sem.run_pure, Result.andThen_ok, binOp, Op.stringOp]; rfl, by simp only [AA]⟩
  ·simp only [Option.some.injEq] at h
   subst h
   exact ⟨_, by simp only [execOp, ho, hrx, hry, eqGuard_at_string, Sem.run_bind, Sem.run_pure, Result.andThen_ok, binOp, Op.stringOp]; rfl, by simp only [AA]⟩
  ·split at h <;> simp only [Option.some.injEq, reduceCtorEq] at h
   rename_i hsz
   subst h
   have hn0 : ∀ n : Nat, n ≤ 1099511627776 → ¬ ((n : Int) > IntKind.i64.max) := fun n h => by rw [IntKind.max_i64]; omega
   have hn := hn0 _ hsz
   exact ⟨_, by simp only [execOp, ho, hrx, hry, eqGuard_at_string, Sem.run_bind, Sem.run_pure, Result.andThen_ok, binOp, Op.stringOp, hn, if_false]; rfl, by simp only [AA]⟩
  ·simp at h
 ·simp only [AA] at hrx hry
  obtain ⟨us, hu, hxs⟩ := hrx
  obtain ⟨vs, hv, hys⟩ := hry
  simp only [Option.bind_eq_some_iff] at h
  obtain ⟨ks, hks, h⟩ := h
  unfold Im at hks
  split at hks
  case h_2 => simp at hks
  rename_i fs hu'
  split at hks
  case isFalse => simp at hks
  rename_i hg
  simp only [Bool.and_eq_true, Bool.not_eq_true'] at hg
  obtain ⟨hg1, hg2⟩ := hg
  have hfo : c.P.fieldsOf t = fs := by simp only [Program.fieldsOf, hu']
  have hu2 : c.P.underlying t = some (.struct (c.P.fieldsOf t)) := by rw [hfo]; exact hu'
  have key : ∀ xs ys b, AP E xs us.toList → AP E ys vs.toList → Ck ks xs ys = some b → (Op.equalIn 10000 t (.agg us) (.agg vs)).run c.P E.w = .ok b E.w := by
   intro xs ys b hxs hys hb
   rw [run_equalIn_struct E.w 9999 t us vs hu2 hg1, hfo]
   exact IX 9998 us vs fs.toList 0 ks _ _ b hks (by simpa using hxs) (by simpa using hys) hb
  split at h
  ·simp only [Option.map_eq_some_iff] at h
   obtain ⟨b, hb, rfl⟩ := h
   exact ⟨_, by simp only [execOp, ho, hu, hv, run_eqGuard_agg E.w _ _ _ _ _ _ hg2, Sem.run_bind, Result.andThen_ok, run_eql_struct, key _ _ b hxs hys hb, Sem.run_pure]; rfl, by simp only [AA]⟩
  ·simp only [Option.map_eq_some_iff] at h
   obtain ⟨b, hb, rfl⟩ := h
   exact ⟨_, by simp only [execOp, ho, hu, hv, run_eqGuard_agg E.w _ _ _ _ _ _ hg2, Sem.run_bind, Result.andThen_ok, run_neq_struct, key _ _ b hxs hys hb, Sem.run_pure]; rfl, by simp only [AA]⟩
  ·simp at h
 ·simp at h
end
section
variable {c : Cx} {E : AZ} {S : St} {a : Act} {o : Oper}
theorem Pr (hs : Cc c E S a) {src dst : TypeId} {x : Operand} {k0 k k' : IntKind} {n : Int} (ho : o.op = .convert src dst x) (h1 : c.P.underlying src = some (.int k0)) (h2 : c.P.underlying dst = some (.int k)) (hx : ev S.T x = some (.int k' n)) : DG c E a o (.int k (k.wrap n)) := by
 have hr := B5 hs x _ hx
 simp only [AA] at hr
 exact ⟨_, by simp only [execOp, ho, hr, convert, Sem.run_bind, run_underlying h1, run_underlying h2, Result.andThen_ok, Conv.intToInt, Sem.run_pure]; rfl, by simp only [AA]⟩
theorem QX {E : AZ} {lv : Option Nat} {g : Nat} : ∀ (cs : List V) (o : Nat), CN E lv g o cs → ∀ (i : Nat) v, cs[i]? = some v → ∃ u, E.w.cell? ⟨g, o + i, none⟩ = some u ∧ AA E v u ∧ ¬ E.U lv g (o + i)
 | [], o, _, i, v, h => by simp at h
 | x :: cs, o, hr, i, v, h => by
  simp only [CN] at hr
  obtain ⟨⟨u, h1, h2⟩, h3, h4⟩ := hr
  cases i with
  | zero => simp only [List.getElem?_cons_zero, Option.some.injEq] at h; subst h; exact ⟨u, h1, h2, h3⟩
  | succ i =>
   have := QX cs (o + 1) h4 i v (by simpa using h)
   rw [show o + 1 + i = o + (i + 1) by omega] at this
   exact this
theorem Q9 : ∀ {cs : List V} {acc s : ByteArray}, Lf acc cs = some s → ∃ ns : List Int, cs = ns.map (V.int .u8) ∧ s = ns.foldl (fun r n => r.push (UInt8.ofNat n.toNat)) acc
 | [], acc, s, h => by
  simp only [Lf, Option.some.injEq] at h
  exact ⟨[], rfl, h.symm⟩
 | c :: cs, acc, s, h => by
  unfold Lf at h
  split at h
  ·rename_i e; cases e
  ·rename_i n cs' e
   cases e
   obtain ⟨ns, h1, h2⟩ := Q9 h
   exact ⟨n :: ns, by rw [h1]; rfl, h2⟩
  ·cases h
theorem Jw (hs : Cc c E S a) {src dst e : TypeId} {x : Operand} {cs : List V} {s : ByteArray} (ho : o.op = .convert src dst x) (h1 : c.P.underlying src = some (.slice e)) (h2 : c.P.underlying dst = some .string) (he : c.P.underlying e = some (.int .u8)) (hx : ev S.T x = some (.tl cs.length cs)) (hb : Lf .empty cs = some s) : DG c E a o (.str s) := by
 have hr := B5 hs x _ hx
 simp only [AA] at hr
 obtain ⟨A, hv, hA⟩ := hr
 obtain ⟨ns, rfl, rfl⟩ := Q9 hb
 refine ⟨.string (ns.foldl (fun r n => r.push (UInt8.ofNat n.toNat)) ByteArray.empty), ?_, by simp only [AA]⟩
 simp only [execOp, ho, hv, Sem.run_bind, run_convert_bytes_string E.w src dst e A _ _ h1 he h2]
 cases A with
 | none =>
  rcases hA with h0 | ⟨g, o', hg, _⟩
  ·have : ns = [] := List.eq_nil_of_length_eq_zero (by simpa using h0)
   subst this
   rfl
  ·cases hg
 | some A =>
  have hl : (loadCells A (ns.map (V.int .u8)).length).run c.P E.w = .ok (ns.map (Value.int .u8)).toArray E.w := by
   have := run_loadCells_list (P := c.P) (w := E.w) A (ns.map (Value.int .u8)) (fun j v hj => by
    rcases hA with h0 | ⟨g, o', hg, hc⟩
    ·have : ns = [] := List.eq_nil_of_length_eq_zero (by simpa using h0)
     subst this
     simp at hj
    ·cases hg
     simp only [List.getElem?_map, Option.map_eq_some_iff] at hj
     obtain ⟨n, hn, rfl⟩ := hj
     obtain ⟨u, q1, q2, _⟩ := QX _ _ hc j (.int .u8 n) (by simp [List.getElem?_map, hn])
     simp only [AA] at q2
     subst q2
     exact (show (Addr.add ⟨g, o', none⟩ j) = ⟨g, o' + j, none⟩ by simp [Addr.add]) ▸ q1)
   simpa using this
  rw [run_bytesToString E.w A _ _ ns hl]
  rfl
theorem Oo (hs : Cc c E S a) {f : FuncId} {caps : Array Operand} {vs : List V} (ho : o.op = .makeFunc (.func f) #[] caps) (h : KC S.T caps.toList = some vs) : DG c E a o (.fn f vs) := by
 have hr := S4 hs _ _ h
 refine ⟨.func (.func f) #[] (caps.map a.eval), by simp [execOp, ho, Instr.makeFunc], ?_⟩
 simp only [AA]
 exact ⟨_, rfl, by simpa using hr⟩
theorem Ps (hs : Cc c E S a) {x : Operand} {i : Nat} {vs : List V} {v : V} (ho : o.op = .extract x i) (hx : ev S.T x = some (.FH vs)) (h : vs[i]? = some v) : DG c E a o v := by
 have hr := B5 hs x _ hx
 simp only [AA] at hr
 obtain ⟨us, hu, hr⟩ := hr
 obtain ⟨u, h1, h2⟩ := (BP _ _ hr).2 i v h
 exact ⟨u, by simp [execOp, ho, hu, Instr.extract, show us[i]? = some u by simpa using h1], h2⟩
theorem K2 {P : Program} {s : TypeId} {f off : Nat} (h : AW P s f = some off) :
  ∃ fs g n, P.underlying s = some (.struct fs) ∧ fs[f]? = some g ∧ B3 P g.type = some (n + 1) ∧ g.offset = off := by
 unfold AW at h
 split at h
 ·split at h
  ·split at h
   ·rename_i hfs _ _ hg _ _ hn
    simp only [Option.some.injEq] at h
    exact ⟨_, _, _, hfs, hg, hn, h⟩
   ·simp at h
  ·simp at h
 ·simp at h
theorem Mt {P : Program} {w : World} {s : TypeId} {f off g o : Nat} (h : AW P s f = some off) :
  (Instr.fieldAt s (.pointer (some ⟨g, o, none⟩)) f).run P w = .ok (.pointer (some ⟨g, o + off, none⟩)) w := by
 obtain ⟨fs, fd, n, h1, h2, h3, rfl⟩ := K2 h
 simp only [Instr.fieldAt, Sem.run_bind, run_underlying h1, Result.andThen_ok, h2, Instr.sureAddr, Sem.run_pure, fieldPlace, EM h3, Nat.succ_ne_zero, if_false, Addr.add_lit]
theorem Jx (hs : Cc c E S a) {s : TypeId} {x : Operand} {f off b i : Nat} (ho : o.op = .fieldAddr s x f) (h : AW c.P s f = some off) (hx : ev S.T x = some (.ptr b i)) : DG c E a o (.ptr b (i + off)) := by
 have hr := B5 hs x _ hx
 simp only [AA] at hr
 refine ⟨_, by simp only [execOp, ho, hr.2.1, Mt h, Sem.run_bind, Result.andThen_ok, Sem.run_pure]; rfl, ?_⟩
 simp only [AA]
 exact ⟨hr.1, trivial, hr.2.2⟩
theorem KP (hs : Cc c E S a) {s : TypeId} {x : Operand} {f off lv i : Nat} {cs : List V} (ho : o.op = .fieldAddr s x f) (h : AW c.P s f = some off) (hx : ev S.T x = some (.lp lv cs i)) : DG c E a o (.lp lv cs (i + off)) := by
 have hr := B5 hs x _ hx
 simp only [AA] at hr
 obtain ⟨hl, g, q, h1, h2⟩ := hr
 refine ⟨_, by simp only [execOp, ho, h1, Mt h, Sem.run_bind, Result.andThen_ok, Sem.run_pure]; rfl, ?_⟩
 simp only [AA]
 exact ⟨hl, g, q, by rw [Nat.add_assoc], h2⟩
theorem CQ {E : AZ} {lv : Option Nat} {g : Nat} : ∀ (cs : List V) (o : Nat), CN E lv g o cs → ∀ (i : Nat) v, cs[i]? = some v → ∃ u, E.w.cell? ⟨g, o + i, none⟩ = some u ∧ AA E v u ∧ ¬ E.U lv g (o + i)
 | [], o, _, i, v, h => by simp at h
 | x :: cs, o, hr, i, v, h => by
  simp only [CN] at hr
  obtain ⟨⟨u, h1, h2⟩, h3, h4⟩ := hr
  cases i with
  | zero => simp only [List.getElem?_cons_zero, Option.some.injEq] at h; subst h; exact ⟨u, h1, h2, h3⟩
  | succ i =>
   have := CQ cs (o + 1) h4 i v (by simpa using h)
   rw [show o + 1 + i = o + (i + 1) by omega] at this
   exact this
theorem FA {E : AZ} {lv : Option Nat} {g : Nat} : ∀ (cs : List V) (o : Nat), (∀ (i : Nat) v, cs[i]? = some v → ∃ u, E.w.cell? ⟨g, o + i, none⟩ = some u ∧ AA E v u ∧ ¬ E.U lv g (o + i)) → CN E lv g o cs
 | [], o, _ => by simp only [CN]
 | x :: cs, o, h => by
  simp only [CN]
  obtain ⟨u, h1, h2, h3⟩ := h 0 x rfl
  refine ⟨⟨u, h1, h2⟩, h3, FA cs (o + 1) fun i v hi => ?_⟩
  have := h (i + 1) v (by simpa using hi)
  rwa [show o + (i + 1) = o + 1 + i by omega] at this
theorem Ds {E : AZ} : ∀ (cs : List V) (us : List Value), cs.length = us.length → (∀ (i : Nat) v u, cs[i]? = some v → us[i]? = some u → AA E v u) → AP E cs us
 | [], us, hl, _ => by
  simp only [AP]
  cases us with
  | nil => rfl
  | cons => simp at hl
 | x :: cs, us, hl, h => by
  cases us with
  | nil => simp at hl
  | cons u us =>
   simp only [AP]
   exact ⟨u, us, rfl, h 0 x u rfl rfl, Ds cs us (by simpa using hl) fun i v w hi hj => h (i + 1) v w (by simpa using hi) (by simpa using hj)⟩
theorem LS {P : Program} {E : AZ} {t : TypeId} {cs : List V} {g o off : Nat} {v : V} (hc : ∀ (i : Nat) v, cs[i]? = some v → ∃ u, E.w.cell? ⟨g, o + i, none⟩ = some u ∧ AA E v u)
  (h : BA P t cs off = some v) : ∃ u, (loadVar t ⟨g, o + off, none⟩).run P E.w = .ok u E.w ∧ AA E v u := by
 unfold BA at h
 split at h
 ·rename_i ha
  simp only [Option.bind_eq_some_iff] at h
  obtain ⟨n, hn, h⟩ := h
  split at h
  case isFalse => simp at h
  simp only [Option.some.injEq] at h
  rename_i hl
  subst h
  have hex : ∀ i, i < n → ∃ u, E.w.cell? ⟨g, o + off + i, none⟩ = some u ∧ ∀ v, cs[off + i]? = some v → AA E v u := by
   intro i hi
   obtain ⟨u, h1, h2⟩ := hc (off + i) cs[off + i] (List.getElem?_eq_getElem (by omega))
   refine ⟨u, by rw [Nat.add_assoc]; exact h1, fun v hv => ?_⟩
   rw [List.getElem?_eq_getElem (by omega)] at hv
   simp only [Option.some.injEq] at hv
   subst hv
   exact h2
  have hcells := run_loadCells (P := P) E.w ⟨g, o + off, none⟩ n (fun j => (E.w.cell? ⟨g, o + off + j, none⟩).getD undef) (fun j hj => by
   obtain ⟨u, h1, _⟩ := hex j hj
   rw [Addr.add_lit, h1]; rfl)
  refine ⟨.agg ((List.range n).map fun j => (E.w.cell? ⟨g, o + off + j, none⟩).getD undef).toArray, ?_, ?_⟩
  ·simp only [loadVar, Sem.run_bind, K6 ha, Result.andThen_ok, if_true, EM hn, hcells, Sem.run_pure]
  ·simp only [AA]
   refine ⟨_, rfl, Ds _ _ (by simp; omega) fun i v u hi hj => ?_⟩
   have hin : i < n := by
    rcases Nat.lt_or_ge i n with h | h
    ·exact h
    ·rw [List.getElem?_eq_none (by rw [List.length_take]; omega)] at hi; cases hi
   simp only [List.getElem?_take, hin, if_true, List.getElem?_drop] at hi
   simp only [List.getElem?_map, List.getElem?_range hin, Option.map_some, Option.some.injEq] at hj
   obtain ⟨u', h1, h2⟩ := hex i hin
   rw [h1] at hj
   simp only [Option.getD_some] at hj
   subst hj
   exact h2 v hi
 ·rename_i ha
  obtain ⟨u, h1, h2⟩ := hc off v h
  refine ⟨u, ?_, h2⟩
  simp only [loadVar, Sem.run_bind, GU ha, Result.andThen_ok, Bool.false_eq_true, if_false, run_load, h1]
 ·simp at h
theorem SK {E : AZ} (hh : CJ E) {b sz : Nat} {cs : List V} (hb : E.H[b]? = some (.cells sz cs)) (i : Nat) (v : V) (hv : cs[i]? = some v) : ∃ u, E.w.cell? ⟨E.φ b, 0 + i, none⟩ = some u ∧ AA E v u := by
 obtain ⟨cc, t, h1, h2, h3⟩ := hh.cells b sz cs hb
 obtain ⟨u, h4, h5⟩ := h3 i v hv
 exact ⟨u, by rw [cell_of_row _ _ _ _ _ _ h1, Nat.zero_add]; exact h4, h5⟩
theorem WV {P : Program} {E : AZ} (hh : CJ E) {t : TypeId} {p v : V} {u : Value} (hp : AA E p u) (h : G5 P t E.H p = some v) :
  ∃ x, (Instr.loadAt t u).run P E.w = .ok x E.w ∧ AA E v x := by
 unfold G5 at h
 split at h
 ·split at h
  case h_2 => simp at h
  rename_i b off _ sz cs hb
  simp only [AA] at hp
  obtain ⟨_, hp, _⟩ := hp
  obtain ⟨x, h1, h2⟩ := LS (P := P) (o := 0) (SK hh hb) h
  refine ⟨x, ?_, h2⟩
  rw [Nat.zero_add] at h1
  simp only [Instr.loadAt, hp, Instr.sureAddr, Sem.run_bind, Sem.run_pure, Result.andThen_ok, h1]
 ·simp only [AA] at hp
  obtain ⟨_, g, o, hp, hr⟩ := hp
  obtain ⟨x, h1, h2⟩ := LS (P := P) (o := o) (fun i v hi => by
   obtain ⟨u, h1, h2, _⟩ := CQ _ _ hr i v hi
   exact ⟨u, h1, h2⟩) h
  refine ⟨x, ?_, h2⟩
  simp only [Instr.loadAt, hp, Instr.sureAddr, Sem.run_bind, Sem.run_pure, Result.andThen_ok, h1]
 ·simp at h
theorem UG (hs : Cc c E S a) {t : TypeId} {x : Operand} {p v : V} (ho : o.op = .load t x) (hx : ev S.T x = some p) (h : G5 c.P t S.H p = some v) : DG c E a o v := by
 have hr := B5 hs x _ hx
 rw [← hs.H] at h
 obtain ⟨u, h1, h2⟩ := WV (P := c.P) hs.heap hr h
 exact ⟨u, by simp only [execOp, ho, h1, Sem.run_bind, Result.andThen_ok, Sem.run_pure], h2⟩
theorem So (hs : Cc c E S a) {t : TypeId} {x : Operand} {f off : Nat} {fs : Array Field} {g : Field} {cs : List V} {v : V} (ho : o.op = .field t x f) (h : AW c.P t f = some off) (hf : c.P.underlying t = some (.struct fs)) (hg : fs[f]? = some g)
  (hx : ev S.T x = some (.agg cs)) (hv : BA c.P g.type cs off = some v) : DG c E a o v := by
 have hr := B5 hs x _ hx
 simp only [AA] at hr
 obtain ⟨us, hu, hr⟩ := hr
 obtain ⟨fs', g', n, h1, h2, h3, h4⟩ := K2 h
 rw [hf] at h1
 simp only [Option.some.injEq, TypeDesc.struct.injEq] at h1
 subst h1
 rw [hg] at h2
 simp only [Option.some.injEq] at h2
 subst h2 h4
 obtain ⟨hl, hget⟩ := BP _ _ hr
 unfold BA at hv
 split at hv
 ·rename_i ha
  simp only [Option.bind_eq_some_iff] at hv
  obtain ⟨m, hm, hv⟩ := hv
  split at hv
  case isFalse => simp at hv
  simp only [Option.some.injEq] at hv
  subst hv
  refine ⟨.agg (us.extract g.offset (g.offset + m)), ?_, ?_⟩
  ·simp only [execOp, ho, hu, Instr.field, asAgg, part, Sem.run_bind, run_underlying hf, Result.andThen_ok, hg, Sem.run_pure, K6 ha, if_true, EM hm]
  ·simp only [AA]
   refine ⟨_, rfl, Ds _ _ ?_ fun i v u hi hj => ?_⟩
   ·simp [hl]
   ·have hj' : us.toList[g.offset + i]? = some u := by
     simp only [Array.toList_extract, List.extract_eq_take_drop, List.getElem?_take] at hj
     split at hj
     ·simpa using hj
     ·cases hj
    have hi' : cs[g.offset + i]? = some v := by
     rw [List.getElem?_take] at hi
     split at hi
     ·simpa using hi
     ·cases hi
    obtain ⟨u', k1, k2⟩ := hget _ v hi'
    rw [hj'] at k1
    simp only [Option.some.injEq] at k1
    subst k1
    exact k2
 ·rename_i ha
  obtain ⟨u, k1, k2⟩ := hget _ v hv
  refine ⟨u, ?_, k2⟩
  simp only [execOp, ho, hu, Instr.field, asAgg, part, Sem.run_bind, run_underlying hf, Result.andThen_ok, hg, Sem.run_pure, GU ha, Bool.false_eq_true, if_false, show us[g.offset]? = some u by simpa using k1]
 ·simp at hv
theorem CA {P : Program} {t e : TypeId} (h : Ax P t = some e) : P.underlying t = some (.slice e) := by
 unfold Ax at h
 split at h <;> simp only [Option.some.injEq, reduceCtorEq] at h
 subst h; assumption
theorem Mu {P : Program} {w : World} {t e : TypeId} {sz len cap g o : Nat} {k : IntKind} {n : Int} (ht : Ax P t = some e) (hz : B3 P e = some sz) (h0 : 0 ≤ n) (h1 : n < len) :
  (Instr.indexAt t (.slice (some ⟨g, o, none⟩) len cap) (.int k n)).run P w = .ok (.pointer (some ⟨g, o + n.toNat * sz, none⟩)) w := by
 simp only [Instr.indexAt, asIntOf, Sem.run_bind, Sem.run_pure, Result.andThen_ok, run_underlying (CA ht), h0, h1, and_self, if_true, EM hz, Addr.add_lit]
theorem On (hs : Cc c E S a) {t e : TypeId} {x i : Operand} {sz b off len : Nat} {k : IntKind} {n : Int} (ho : o.op = .indexAddr t x i) (ht : Ax c.P t = some e) (hz : B3 c.P e = some sz)
  (hx : ev S.T x = some (.sl b off len)) (hi : ev S.T i = some (.int k n)) (h0 : 0 ≤ n) (h1 : n < len) : DG c E a o (.ptr b (off + n.toNat * sz)) := by
 have hr := B5 hs x _ hx
 have hri := B5 hs i _ hi
 simp only [AA] at hr hri
 obtain ⟨hb, ⟨cap, hv, _⟩, hn⟩ := hr
 refine ⟨_, by simp only [execOp, ho, hv, hri, Mu ht hz h0 h1, Sem.run_bind, Result.andThen_ok, Sem.run_pure]; rfl, ?_⟩
 simp only [AA]
 exact ⟨hb, trivial, hn⟩
theorem GD {x i : Operand} {t e : TypeId} {sz lv len : Nat} {cs : List V} {k : IntKind} {n : Int} {A : Option Addr} {cap : Nat} (ho : o.op = .indexAddr t x i) (ht : Ax c.P t = some e) (hz : B3 c.P e = some sz)
  (hlv : lv ≤ E.m) (hx : a.eval x = .slice A len cap) (hA : ∃ g q, A = some ⟨g, q, none⟩ ∧ CN E (some lv) g q cs) (hi : a.eval i = .int k n) (h0 : 0 ≤ n) (h1 : n < len) : DG c E a o (.lp lv cs (n.toNat * sz)) := by
 obtain ⟨g, q, rfl, hr⟩ := hA
 refine ⟨_, by simp only [execOp, ho, hx, hi, Mu ht hz h0 h1, Sem.run_bind, Result.andThen_ok, Sem.run_pure]; rfl, ?_⟩
 simp only [AA]
 exact ⟨hlv, g, q, rfl, hr⟩
theorem Vh {E : AZ} {v : V} {u : Value} {n : Nat} (hr : AA E v u) (h : CZ v = some n) : ∃ A cap, u = .slice A n cap ∧ n ≤ cap := by
 unfold CZ at h
 split at h <;> simp only [Option.some.injEq, reduceCtorEq] at h <;> subst h <;> simp only [AA] at hr
 ·obtain ⟨_, A, cap, h1, h2, _⟩ := hr; exact ⟨A, cap, h1, h2⟩
 ·obtain ⟨A, h1, _⟩ := hr; exact ⟨A, _, h1, Nat.le_refl _⟩
 ·obtain ⟨_, ⟨A, cap, h1, h2, _⟩, _⟩ := hr; exact ⟨A, cap, h1, h2⟩
 ·obtain ⟨_, ⟨cap, h1, h2⟩, _⟩ := hr; exact ⟨_, cap, h1, h2⟩
theorem WM (hs : Cc c E S a) {x : Operand} {t : TypeId} {e : TypeId} {v : V} {n : Nat} {args : Array Operand} {ats : Array TypeId} (ho : o.op = .call { callee := .builtin .len, args := args, argTypes := ats }) (ha : args.toList = [x]) (hat : ats[0]? = some t)
    (ht : c.P.underlying t = some (.slice e)) (hx : ev S.T x = some v) (hn : CZ v = some n) : DG c E a o (.int .i64 n) := by
  obtain ⟨A, cap, hu, _⟩ := Vh (B5 hs x _ hx) hn
  have hargs : args = #[x] := by apply Array.ext'; simpa using ha
  subst hargs
  refine ⟨_, by simp only [execOp, ho, resolve, Sem.run_bind, Sem.run_pure, Result.andThen_ok, invoke, builtin, Builtin.len_, hat, List.map_toArray, List.map_cons, List.map_nil, hu, run_underlying ht, List.getElem?_toArray, List.getElem?_cons_zero]; rfl, ?_⟩
  simp only [AA]; rfl
theorem UF (hs : Cc c E S a) {x : Operand} {t : TypeId} {s : ByteArray} {args : Array Operand} {ats : Array TypeId} (ho : o.op = .call { callee := .builtin .len, args := args, argTypes := ats }) (ha : args.toList = [x]) (hat : ats[0]? = some t)
    (ht : c.P.underlying t = some .string) (hx : ev S.T x = some (.str s)) : DG c E a o (.int .i64 s.size) := by
  have hu := B5 hs x _ hx
  simp only [AA] at hu
  have hargs : args = #[x] := by apply Array.ext'; simpa using ha
  subst hargs
  refine ⟨_, by simp only [execOp, ho, resolve, Sem.run_bind, Sem.run_pure, Result.andThen_ok, invoke, builtin, Builtin.len_, hat, List.map_toArray, List.map_cons, List.map_nil, hu, run_underlying ht, List.getElem?_toArray, List.getElem?_cons_zero]; rfl, ?_⟩
  simp only [AA]; rfl
theorem WO (hs : Cc c E S a) {x y : Operand} {k k' : IntKind} {p q : Int} {args : Array Operand} {ats : Array TypeId} (ho : o.op = .call { callee := .builtin .min, args := args, argTypes := ats }) (ha : args.toList = [x, y])
    (hx : ev S.T x = some (.int k p)) (hy : ev S.T y = some (.int k' q)) : DG c E a o (.int k (if q < p then q else p)) := by
  have hu := B5 hs x _ hx
  have hv := B5 hs y _ hy
  simp only [AA] at hu hv
  have hargs : args = #[x, y] := by apply Array.ext'; simpa using ha
  subst hargs
  refine ⟨_, by simp only [execOp, ho, resolve, Sem.run_bind, Sem.run_pure, Result.andThen_ok, invoke, builtin, Builtin.min_, Builtin.min2, List.map_toArray, List.map_cons, List.map_nil, hu, hv, List.foldlM_cons, List.foldlM_nil]; rfl, ?_⟩
  simp only [AA]
theorem WN (hs : Cc c E S a) {x y : Operand} {k k' : IntKind} {p q : Int} {args : Array Operand} {ats : Array TypeId} (ho : o.op = .call { callee := .builtin .max, args := args, argTypes := ats }) (ha : args.toList = [x, y])
    (hx : ev S.T x = some (.int k p)) (hy : ev S.T y = some (.int k' q)) : DG c E a o (.int k (if q > p then q else p)) := by
  have hu := B5 hs x _ hx
  have hv := B5 hs y _ hy
  simp only [AA] at hu hv
  have hargs : args = #[x, y] := by apply Array.ext'; simpa using ha
  subst hargs
  refine ⟨_, by simp only [execOp, ho, resolve, Sem.run_bind, Sem.run_pure, Result.andThen_ok, invoke, builtin, Builtin.max_, Builtin.max2, List.map_toArray, List.map_cons, List.map_nil, hu, hv, List.foldlM_cons, List.foldlM_nil]; rfl, ?_⟩
  simp only [AA]
theorem Rc (hs : Cc c E S a) {x i : Operand} {t : TypeId} {s : ByteArray} {k : IntKind} {n : Int} {b : UInt8} (ho : o.op = .index t x i) (ht : c.P.underlying t = some .string) (hx : ev S.T x = some (.str s)) (hi : ev S.T i = some (.int k n))
  (h0 : 0 ≤ n) (hb : s[n.toNat]? = some b) : DG c E a o (.int .u8 b.toNat) := by
 have hu := B5 hs x _ hx
 have hv := B5 hs i _ hi
 simp only [AA] at hu hv
 refine ⟨_, by simp only [execOp, ho, hu, hv, Instr.index, asIntOf, Sem.run_bind, Sem.run_pure, Result.andThen_ok, run_underlying ht, h0, if_true, hb]; rfl, ?_⟩
 simp only [AA]
theorem Wl {E : AZ} {lv : Option Nat} {g : Nat} (cs : List V) (o i n : Nat) (h : CN E lv g o cs) : CN E lv g (o + i) ((cs.drop i).take n) := by
 refine FA _ _ fun j v hj => ?_
 rw [List.getElem?_take] at hj
 split at hj
 ·rw [List.getElem?_drop] at hj
  have := CQ _ _ h _ v hj
  rw [Nat.add_assoc]
  exact this
 ·cases hj
theorem Us (hs : Cc c E S a) {len cap l h : Nat} (lo hi : Option Operand) (hlo : Ce S.T 0 lo = some l) (hhi : Ce S.T len hi = some h) (hlc : len ≤ cap) (hlh : l ≤ h) (hhl : h ≤ len) :
  (Instr.sliceBounds true len cap (lo.map a.eval) (hi.map a.eval) none).run c.P E.w = .ok (l, h, cap) E.w := by
 have h1 : ∀ (x : Operand) (y n : Nat) (z : BoundsCode) m, Ce S.T m (some x) = some n → n ≤ y → (Instr.sliceBound (a.eval x) y z).run c.P E.w = .ok n E.w := by
  intro x y n z m hx hn
  simp only [Ce] at hx
  split at hx
  ·rename_i k i hk
   split at hx
   case isFalse => cases hx
   rename_i hi0
   simp only [Option.some.injEq] at hx
   subst hx
   have hr := B5 hs x _ hk
   simp only [AA] at hr
   simp only [Instr.sliceBound, hr, asIntOf, Sem.run_bind, Sem.run_pure, Result.andThen_ok]
   rw [if_pos ⟨hi0, by omega⟩]
   rfl
  ·cases hx
 cases hi with
 | none =>
  simp only [Ce, Option.some.injEq] at hhi
  subst hhi
  cases lo with
  | none =>
   simp only [Ce, Option.some.injEq] at hlo
   subst hlo
   simp [Instr.sliceBounds]
  | some x =>
   have := h1 x len l .sliceB 0 hlo hlh
   simp [Instr.sliceBounds, this]
 | some y =>
  have hy := h1 y cap h .sliceAcap len hhi (by omega)
  cases lo with
  | none =>
   simp only [Ce, Option.some.injEq] at hlo
   subst hlo
   simp [Instr.sliceBounds, hy]
  | some x =>
   have := h1 x h l .sliceB 0 hlo hlh
   simp [Instr.sliceBounds, hy, this]
theorem Mv (hs : Cc c E S a) {t e : TypeId} {A : Option Addr} {len cap l h sz : Nat} (lo hi : Option Operand) (ht : Ax c.P t = some e) (hz : B3 c.P e = some sz) (hlo : Ce S.T 0 lo = some l) (hhi : Ce S.T len hi = some h) (hlc : len ≤ cap) (hlh : l ≤ h) (hhl : h ≤ len) :
  (Instr.sliceAt t (.slice A len cap) (lo.map a.eval) (hi.map a.eval) none).run c.P E.w = .ok (.slice (if cap = l then A else A.map (·.add (l * sz))) (h - l) (cap - l)) E.w := by
 have hu := CA ht
 simp only [Instr.sliceAt, Instr.slice, Sem.run_bind, run_underlying hu, Result.andThen_ok, Us hs lo hi hlo hhi hlc hlh hhl, EM hz, Sem.run_pure]
theorem GF (hs : Cc c E S a) {t e : TypeId} {x : Operand} {lo hi : Option Operand} {lv len l h sz cap : Nat} {cs : List V} {A : Option Addr} (ho : o.op = .slice t x lo hi none) (ht : Ax c.P t = some e) (hz : B3 c.P e = some sz)
  (hlv : lv ≤ E.m) (hx : a.eval x = .slice A len cap) (hlc : len ≤ cap) (hA : len = 0 ∨ ∃ g q, A = some ⟨g, q, none⟩ ∧ CN E (some lv) g q cs)
  (hlo : Ce S.T 0 lo = some l) (hhi : Ce S.T len hi = some h) (hlh : l ≤ h) (hhl : h ≤ len) : DG c E a o (.lit lv (h - l) ((cs.drop (l * sz)).take ((h - l) * sz))) := by
 refine ⟨_, by simp only [execOp, ho, hx, Mv hs lo hi ht hz hlo hhi hlc hlh hhl, Sem.run_bind, Result.andThen_ok, Sem.run_pure, Option.map_none]; rfl, ?_⟩
 simp only [AA]
 refine ⟨hlv, _, _, rfl, by omega, ?_⟩
 by_cases h0 : h - l = 0
 ·exact .inl h0
 ·right
  rcases hA with hA | ⟨g, q, rfl, hr⟩
  ·omega
  ·refine ⟨g, q + l * sz, ?_, Wl cs q _ _ hr⟩
   rw [if_neg (by omega)]
   simp only [Option.map_some, Addr.add_lit]
theorem Ot (hs : Cc c E S a) {t e : TypeId} {x : Operand} {lo hi : Option Operand} {b off len l h sz : Nat} (ho : o.op = .slice t x lo hi none) (ht : Ax c.P t = some e) (hz : B3 c.P e = some sz)
  (hx : ev S.T x = some (.sl b off len)) (hlo : Ce S.T 0 lo = some l) (hhi : Ce S.T len hi = some h) (hlh : l ≤ h) (hhl : h ≤ len) : DG c E a o (if l = h then .lit 0 0 [] else .sl b (off + l * sz) (h - l)) := by
 have hr := B5 hs x _ hx
 simp only [AA] at hr
 obtain ⟨hb, ⟨cap, hv, hlc⟩, hn⟩ := hr
 refine ⟨_, by simp only [execOp, ho, hv, Mv hs lo hi ht hz hlo hhi hlc hlh hhl, Sem.run_bind, Result.andThen_ok, Sem.run_pure, Option.map_none]; rfl, ?_⟩
 split
 ·simp only [AA]
  exact ⟨Nat.zero_le _, _, _, by rw [show h - l = 0 by omega], by omega, .inl trivial⟩
 ·simp only [AA]
  refine ⟨hb, ⟨cap - l, ?_, by omega⟩, hn⟩
  rw [if_neg (by omega)]
  simp only [Option.map_some, Addr.add_lit]
theorem Re (hs : Cc c E S a) {t e : TypeId} {x y z : Operand} {v : V} {n : Nat} {k k' : IntKind} (ho : o.op = .slice t x none (some y) (some z)) (ht : Ax c.P t = some e) {sz : Nat} (hz : B3 c.P e = some sz)
  (hx : ev S.T x = some v) (hn : CZ v = some n) (hy : ev S.T y = some (.int k 0)) (hzz : ev S.T z = some (.int k' 0)) : DG c E a o (.tl 0 []) := by
 obtain ⟨A, cap, hu, _⟩ := Vh (B5 hs x _ hx) hn
 have h1 := B5 hs y _ hy
 have h2 := B5 hs z _ hzz
 simp only [AA] at h1 h2
 have hu' := CA ht
 refine ⟨.slice A 0 0, ?_, by simp only [AA]; exact ⟨A, rfl, .inl trivial⟩⟩
 simp [execOp, ho, hu, h1, h2, Instr.sliceAt, Instr.slice, run_underlying hu', Instr.sliceBounds, Instr.sliceBound, asIntOf, EM hz]
end
def AZ.heap (E : AZ) (H : A3) : AZ := { E with H := H }
@[simp] theorem AZ.Fi (E : AZ) (H : A3) : (E.heap H).H = H := rfl
@[simp] theorem AZ.Y1 (E : AZ) (H : A3) : (E.heap H).w = E.w := rfl
@[simp] theorem AZ.Y0 (E : AZ) (H : A3) : (E.heap H).φ = E.φ := rfl
@[simp] theorem AZ.mN (E : AZ) (H : A3) : (E.heap H).n = E.n := rfl
@[simp] theorem AZ.mM (E : AZ) (H : A3) : (E.heap H).m = E.m := rfl
@[simp] theorem AZ.k7 (E : AZ) (H : A3) : (E.heap H).Bb = E.Bb := rfl
@[simp] theorem AZ.lY (E : AZ) (H : A3) : (E.heap H).lk = E.lk := rfl
@[simp] theorem AZ.Jm (E : AZ) (H H' : A3) : (E.heap H).heap H' = E.heap H' := rfl
theorem Ae (H : A3) (b c : Nat) (x : Bp) : (H.set b x)[c]? = if b = c ∧ b < H.length then some x else H[c]? := by
 rw [List.getElem?_set]
 by_cases h : b = c
 ·subst h
  by_cases h2 : b < H.length
  ·simp [h2]
  ·simp [h2]
 ·simp [h]
theorem Fq.kill (E : AZ) (b : Nat) : Fq E (E.heap (E.H.set b .dead)) where
 lk := rfl
 os := rfl
 tape := rfl
 output := rfl
 size := Nat.le_refl _
 len := Nat.le_refl _
 mm := rfl
 cell := fun _ _ _ h _ => h
 block := fun _ _ _ => rfl
 mono := by
  intro lv g i _ hu
  refine .inl ?_
  rcases hu with hu | hu
  ·exact .inl hu
  refine .inr ?_
  cases lv with
  | some lv =>
   obtain ⟨b', h1, h2, h3⟩ := hu
   refine ⟨b', h1, h2, ?_⟩
   simp only [AZ.Fi, Ae] at h3
   by_cases hb : b = b' ∧ b < E.H.length
   ·rw [if_pos hb] at h3; exact h3.elim
   ·rw [if_neg hb] at h3; exact h3
  | none =>
   obtain ⟨b', h1, h3⟩ := hu
   refine ⟨b', h1, ?_⟩
   simp only [AZ.Fi, Ae] at h3
   by_cases hb : b = b' ∧ b < E.H.length
   ·rw [if_pos hb] at h3; exact h3.elim
   ·rw [if_neg hb] at h3; exact h3
 CI := by
  intro b' hb' hn
  refine ⟨rfl, fun l n sz => ?_⟩
  simp only [AZ.Fi, Ae]
  split
  ·simp
  ·exact hn l n sz
 cells := by
  intro b' hb' hn sz cs
  simp only [AZ.Fi, Ae]
  split
  ·simp
  ·exact hn sz cs
 Br := by
  intro b' l n' sz' hb' h
  simp only [AZ.Fi, Ae] at h
  split at h
  ·cases h
  ·exact ⟨n', h, Nat.le_refl _, fun _ => ⟨rfl, fun c t hc => ⟨c, hc, rfl⟩⟩⟩
 fresh := by
  intro b' h
  refine .inl ⟨rfl, ?_⟩
  simp only [AZ.Fi, Ae] at h
  split at h
  ·exact h.elim
  ·exact h
 Bb := fun _ h => h
 Hr := fun _ h => .inl h
 H5 := fun _ _ _ => rfl
theorem CJ.kill {E : AZ} (h : CJ E) (b : Nat) : CJ (E.heap (E.H.set b .dead)) where
 cells := by
  intro b' sz cs hb
  simp only [AZ.Fi, Ae] at hb
  split at hb
  ·cases hb
  ·obtain ⟨c, t, h1, h2, h3⟩ := h.cells b' sz cs hb
   exact ⟨c, t, h1, h2, fun i v hv => let ⟨u, h4, h5⟩ := h3 i v hv; ⟨u, h4, (Fq.kill E b).rep h v u h5⟩⟩
 Br := by
  intro b' l n sz hb
  simp only [AZ.Fi, Ae] at hb
  split at hb
  ·cases hb
  ·exact h.Br b' l n sz hb
 lvl := by
  intro b' l n sz hb
  simp only [AZ.Fi, Ae] at hb
  split at hb
  ·cases hb
  ·exact h.lvl b' l n sz hb
 dm := h.dm
 maps := by
  intro b' BJ hb
  simp only [AZ.Fi, Ae] at hb
  split at hb
  ·cases hb
  ·exact h.maps b' BJ hb
 inj := by
  intro b1 b2 h1 h2 he
  simp only [AZ.Fi, Ae] at h1 h2
  refine h.inj b1 b2 ?_ ?_ he
  ·split at h1
   ·exact h1.elim
   ·exact h1
  ·split at h2
   ·exact h2.elim
   ·exact h2
 Bb := fun g hg => ⟨(h.Bb g hg).1, fun b' hl => (h.Bb g hg).2 b' (by
  simp only [AZ.Fi, Ae] at hl
  split at hl
  ·exact hl.elim
  ·exact hl)⟩
theorem Qr {E : AZ} {lv : Option Nat} {g i : Nat} (h : E.U lv g i) : g ∈ E.Bb ∨ ∃ b, E.φ b = g ∧ live E.H[b]? := by
 rcases h with h | h
 ·exact .inl h
 refine .inr ?_
 cases lv with
 | some lv =>
  obtain ⟨b, h1, h2, h3⟩ := h
  refine ⟨b, h1, ?_⟩
  split at h3
  ·rename_i he; rw [he]; trivial
  ·rename_i he; rw [he]; trivial
  ·rename_i he; rw [he]; trivial
  ·exact h3.elim
 | none =>
  obtain ⟨b, h1, h3⟩ := h
  refine ⟨b, h1, ?_⟩
  split at h3
  ·rename_i he; rw [he]; trivial
  ·rename_i he; rw [he]; trivial
  ·rename_i he; rw [he]; trivial
  ·exact h3.elim
theorem PK {E : AZ} (hh : CJ E) {b : Nat} (hl : live E.H[b]?) {E' : AZ} {k : Nat} (hmono : ∀ lv g i, PA k lv → E'.U lv g i → (E.heap (E.H.set b .dead)).U lv g i ∨ E.w.heap.size ≤ g) (hs : E.φ b < E.w.heap.size) (lv : Option Nat) (hlv : PA k lv) (i : Nat) : ¬ E'.U lv (E.φ b) i := by
 intro hu
 rcases hmono _ _ _ hlv hu with h | h
 ·rcases Qr h with h | ⟨b', h1, hl'⟩
  ·exact (hh.Bb _ h).2 b hl rfl
  simp only [AZ.Fi, AZ.Y0, Ae] at h1 hl'
  split at hl'
  ·exact hl'.elim
  ·rename_i hne
   have := hh.inj b' b hl' hl h1
   subst this
   refine hne ⟨rfl, ?_⟩
   rcases Nat.lt_or_ge b' E.H.length with h | h
   ·exact h
   ·rw [List.getElem?_eq_none h] at hl; exact hl.elim
 ·exact absurd hs (Nat.not_lt.2 h)
theorem DL {E : AZ} {cs : List V} {g o : Nat} (h : ∀ (i : Nat) v, cs[i]? = some v → ∃ u, E.w.cell? ⟨g, o + i, none⟩ = some u ∧ AA E v u) :
  AP E cs ((List.range cs.length).map fun i => (E.w.cell? ⟨g, o + i, none⟩).getD undef) := by
 refine Ds _ _ (by simp) fun i v u hi hj => ?_
 obtain ⟨u', h1, h2⟩ := h i v hi
 have hl : i < cs.length := by
  rcases Nat.lt_or_ge i cs.length with h | h
  ·exact h
  ·rw [List.getElem?_eq_none h] at hi; cases hi
 simp only [List.getElem?_map, List.getElem?_range hl, Option.map_some, Option.some.injEq, h1, Option.getD_some] at hj
 subst hj
 exact h2
theorem Gv {E : AZ} {lv : Option Nat} {g o : Nat} {cs : List V} {us : List Value} (h : AP E cs us) (hc : ∀ (i : Nat) u, us[i]? = some u → E.w.cell? ⟨g, o + i, none⟩ = some u) (hu : ∀ i, i < cs.length → ¬ E.U lv g (o + i)) : CN E lv g o cs := by
 refine FA _ _ fun i v hi => ?_
 obtain ⟨hl, hg⟩ := BP _ _ h
 obtain ⟨u, h1, h2⟩ := hg i v hi
 have hil : i < cs.length := by
  rcases Nat.lt_or_ge i cs.length with h | h
  ·exact h
  ·rw [List.getElem?_eq_none h] at hi; cases hi
 exact ⟨u, hc i u h1, h2, hu i hil⟩
mutual
theorem Lg {E : AZ} {d n : Nat} : ∀ (v : V) (u : Value), clean (d + 1) v = true → AA E v u → AA (E.shrink n d) v u
 | .int .., _, _, r => by simpa only [AA] using r
 | .bool _, _, _, r => by simpa only [AA] using r
 | .str _, _, _, r => by simpa only [AA] using r
 | .HW, _, _, r => by simpa only [AA] using r
 | .Eg, _, _, r => by simpa only [AA] using r
 | .ptr .., _, h, _ => by simp [clean] at h
 | .lp .., _, h, _ => by simp [clean] at h
 | .tl .., _, h, _ => by simp [clean] at h
 | .snap .., _, h, _ => by simp [clean] at h
 | .sl .., _, h, _ => by simp [clean] at h
 | .fn .., _, h, _ => by simp [clean] at h
 | .lit lv len cs, _, h, r => by
  simp only [AA] at r ⊢
  simp only [clean, Bool.and_eq_true, Bool.or_eq_true, beq_iff_eq, decide_eq_true_eq] at h
  obtain ⟨hl, A, cap, h1, h2, h3⟩ := r
  refine ⟨by show lv ≤ d; omega, A, cap, h1, h2, ?_⟩
  rcases h3 with h3 | ⟨g, o, h3, h4⟩
  ·exact .inl h3
  ·exact .inr ⟨g, o, h3, Ng (some lv) g o cs h.2 h4⟩
 | .agg cs, _, h, r => by
  simp only [AA] at r ⊢
  simp only [clean] at h
  obtain ⟨vs, h1, h2⟩ := r
  exact ⟨vs, h1, Iz cs _ h h2⟩
 | .FH cs, _, h, r => by
  simp only [AA] at r ⊢
  simp only [clean] at h
  obtain ⟨vs, h1, h2⟩ := r
  exact ⟨vs, h1, Iz cs _ h h2⟩
theorem Ng {E : AZ} {d n : Nat} (lv : Option Nat) (g : Nat) : ∀ (o : Nat) (cs : List V), clean.cleanL (d + 1) cs = true → CN E lv g o cs → CN (E.shrink n d) lv g o cs
 | _, [], _, _ => by simp only [CN]
 | o, c :: cs, h, r => by
  simp only [CN] at r ⊢
  simp only [clean.cleanL, Bool.and_eq_true] at h
  obtain ⟨⟨u, h1, h2⟩, h3, h4⟩ := r
  exact ⟨⟨u, h1, Lg c u h.1 h2⟩, h3, Ng lv g (o + 1) cs h.2 h4⟩
theorem Iz {E : AZ} {d n : Nat} : ∀ (cs : List V) (vs : List Value), clean.cleanL (d + 1) cs = true → AP E cs vs → AP (E.shrink n d) cs vs
 | [], _, _, r => by simpa only [AP] using r
 | c :: cs, _, h, r => by
  simp only [AP] at r ⊢
  simp only [clean.cleanL, Bool.and_eq_true] at h
  obtain ⟨u, us, h1, h2, h3⟩ := r
  exact ⟨u, us, h1, Lg c u h.1 h2, Iz cs us h.2 h3⟩
end
mutual
theorem Gf {E : AZ} {d : Nat} : ∀ (v : V) (u : Value), BT (d + 1) v = true → AA E v u → AA (E.shrink E.n d) v u
 | .int .., _, _, r => by simpa only [AA] using r
 | .bool _, _, _, r => by simpa only [AA] using r
 | .str _, _, _, r => by simpa only [AA] using r
 | .HW, _, _, r => by simpa only [AA] using r
 | .Eg, _, _, r => by simpa only [AA] using r
 | .ptr .., _, _, r => by simp only [AA] at r ⊢; exact r
 | .FF .., _, _, r => by simp only [AA] at r ⊢; exact r
 | .sl .., _, _, r => by simp only [AA] at r ⊢; exact r
 | .lp .., _, h, _ => by simp [BT] at h
 | .tl len cs, _, h, r => by
  simp only [AA] at r ⊢
  simp only [BT] at h
  obtain ⟨A, h1, h3⟩ := r
  refine ⟨A, h1, ?_⟩
  rcases h3 with h3 | ⟨g, o, h3, h4⟩
  ·exact .inl h3
  ·exact .inr ⟨g, o, h3, HA (some 0) g o cs h h4⟩
 | .snap b len cs, _, h, r => by
  simp only [AA] at r ⊢
  simp only [BT] at h
  obtain ⟨hb, ⟨A, cap, h1, h2, ⟨g, o, h3, ha, h4⟩, h5⟩, h6⟩ := r
  exact ⟨hb, ⟨A, cap, h1, h2, ⟨g, o, h3, ha, HA none g o cs h h4⟩, h5⟩, h6⟩
 | .lit lv len cs, _, h, r => by
  simp only [AA] at r ⊢
  simp only [BT, Bool.and_eq_true, Bool.or_eq_true, beq_iff_eq, decide_eq_true_eq] at h
  obtain ⟨hl, A, cap, h1, h2, h3⟩ := r
  refine ⟨by show lv ≤ d; omega, A, cap, h1, h2, ?_⟩
  rcases h3 with h3 | ⟨g, o, h3, h4⟩
  ·exact .inl h3
  ·exact .inr ⟨g, o, h3, HA (some lv) g o cs h.2 h4⟩
 | .agg cs, _, h, r => by
  simp only [AA] at r ⊢
  simp only [BT] at h
  obtain ⟨vs, h1, h2⟩ := r
  exact ⟨vs, h1, GN cs _ h h2⟩
 | .FH cs, _, h, r => by
  simp only [AA] at r ⊢
  simp only [BT] at h
  obtain ⟨vs, h1, h2⟩ := r
  exact ⟨vs, h1, GN cs _ h h2⟩
 | .fn f cs, _, h, r => by
  simp only [AA] at r ⊢
  simp only [BT] at h
  obtain ⟨vs, h1, h2⟩ := r
  exact ⟨vs, h1, GN cs _ h h2⟩
theorem HA {E : AZ} {d : Nat} (lv : Option Nat) (g : Nat) : ∀ (o : Nat) (cs : List V), BT.cleanGL (d + 1) cs = true → CN E lv g o cs → CN (E.shrink E.n d) lv g o cs
 | _, [], _, _ => by simp only [CN]
 | o, c :: cs, h, r => by
  simp only [CN] at r ⊢
  simp only [BT.cleanGL, Bool.and_eq_true] at h
  obtain ⟨⟨u, h1, h2⟩, h3, h4⟩ := r
  exact ⟨⟨u, h1, Gf c u h.1 h2⟩, h3, HA lv g (o + 1) cs h.2 h4⟩
theorem GN {E : AZ} {d : Nat} : ∀ (cs : List V) (vs : List Value), BT.cleanGL (d + 1) cs = true → AP E cs vs → AP (E.shrink E.n d) cs vs
 | [], _, _, r => by simpa only [AP] using r
 | c :: cs, _, h, r => by
  simp only [AP] at r ⊢
  simp only [BT.cleanGL, Bool.and_eq_true] at h
  obtain ⟨u, us, h1, h2, h3⟩ := r
  exact ⟨u, us, h1, Gf c u h.1 h2, GN cs us h.2 h3⟩
end
def Wy (E : AZ) (v : V) (H' : A3) (v' : V) : Prop :=
 Fq E (E.heap H') ∧ CJ (E.heap H') ∧ ∀ u, AA E v u → AA ((E.heap H').shrink 0 0) v' u
theorem QG {f : A3 → V → Option (V × A3)} (hf : ∀ E v v' H', f E.H v = some (v', H') → CJ E → Wy E v H' v') :
  ∀ (vs : List V) (E : AZ) (vs' : List V) (H' : A3), B4.giveL f E.H vs = some (vs', H') → CJ E →
   Fq E (E.heap H') ∧ CJ (E.heap H') ∧ (∀ us, AP E vs us → AP ((E.heap H').shrink 0 0) vs' us) ∧ vs'.length = vs.length
 | [], E, vs', H', h, hh => by
  simp only [B4.giveL, Option.some.injEq, Prod.mk.injEq] at h
  obtain ⟨rfl, rfl⟩ := h
  exact ⟨Fq.refl E, hh, fun us hu => by simpa only [AP] using hu, rfl⟩
 | v :: vs, E, vs', H', h, hh => by
  simp only [B4.giveL, Option.bind_eq_some_iff, Option.map_eq_some_iff, Prod.exists] at h
  obtain ⟨v1, H1, h1, vs2, H2, h2, h3⟩ := h
  simp only [Prod.mk.injEq] at h3
  obtain ⟨rfl, rfl⟩ := h3
  obtain ⟨e1, r1, p1⟩ := hf E v v1 H1 h1 hh
  obtain ⟨e2, r2, p2, l2⟩ := QG hf vs (E.heap H1) vs2 H2 h2 r1
  simp only [AZ.Jm] at e2 r2 p2
  refine ⟨e1.trans e2, r2, fun us hu => ?_, by simp [l2]⟩
  simp only [AP] at hu ⊢
  obtain ⟨u, us', rfl, hu1, hu2⟩ := hu
  exact ⟨u, us', rfl, (e2.shrink r1 (n := 0) (m := 0) (Nat.zero_le _) (Nat.zero_le _)).rep _ _ (p1 u hu1), p2 us' (e1.Hv hh _ _ hu2)⟩
theorem IL (lo : Nat) : ∀ (k : Nat) (E : AZ) (v v' : V) (H' : A3), B4 lo k E.H v = some (v', H') → CJ E → Wy E v H' v'
 | 0, E, v, v', H', h, _ => by simp [B4] at h
 | k + 1, E, v, v', H', h, hh => by
  have same : (v', H') = (v, E.H) → (∀ u, AA E v u → AA (E.shrink 0 0) v u) → Wy E v H' v' := by
   intro e hr
   simp only [Prod.mk.injEq] at e
   obtain ⟨rfl, rfl⟩ := e
   exact ⟨Fq.refl E, hh, hr⟩
  have ihf := fun (E : AZ) (v v' : V) (H' : A3) (h : B4 lo k E.H v = some (v', H')) hh => IL lo k E v v' H' h hh
  have ih := QG ihf
  cases v with
  | int _ _ => simp only [B4, Option.some.injEq] at h; exact same h.symm fun u r => by simpa only [AA] using r
  | bool _ => simp only [B4, Option.some.injEq] at h; exact same h.symm fun u r => by simpa only [AA] using r
  | str _ => simp only [B4, Option.some.injEq] at h; exact same h.symm fun u r => by simpa only [AA] using r
  | HW => simp only [B4, Option.some.injEq] at h; exact same h.symm fun u r => by simpa only [AA] using r
  | Eg => simp only [B4, Option.some.injEq] at h; exact same h.symm fun u r => by simpa only [AA] using r
  | ptr _ _ => simp [B4] at h
  | FF _ => simp [B4] at h
  | lp _ _ _ => simp [B4] at h
  | fn _ _ => simp [B4] at h
  | FH _ => simp [B4] at h
  | lit lv n cs =>
   simp only [B4] at h
   split at h
   ·rename_i hc
    simp only [Option.some.injEq] at h
    exact same h.symm fun u r => Lg _ u hc r
   ·cases h
  | tl n cs =>
   simp only [B4, Option.map_eq_some_iff, Prod.exists, Prod.mk.injEq] at h
   obtain ⟨cs', H1, h1, rfl, rfl⟩ := h
   obtain ⟨e, r, p, l⟩ := ih cs E cs' H1 h1 hh
   refine ⟨e, r, fun u hu => ?_⟩
   simp only [AA] at hu ⊢
   obtain ⟨A, rfl, hA⟩ := hu
   refine ⟨Nat.le_refl _, A, n, rfl, Nat.le_refl _, ?_⟩
   rcases hA with hA | ⟨g, o, hA, hr⟩
   ·exact .inl hA
   ·refine .inr ⟨g, o, hA, ?_⟩
    have hg := CQ _ _ hr
    have hvs := DL (E := E) (cs := cs) (g := g) (o := o) fun i v hi => let ⟨u, a1, a2, _⟩ := hg i v hi; ⟨u, a1, a2⟩
    refine Gv (p _ hvs) (fun i u hi => ?_) (fun i hi => ?_)
    ·have hil : i < cs.length := by
      rcases Nat.lt_or_ge i cs.length with h | h
      ·exact h
      ·rw [List.getElem?_eq_none (by simp; omega)] at hi; cases hi
     simp only [List.getElem?_map, List.getElem?_range hil, Option.map_some, Option.some.injEq] at hi
     obtain ⟨u', a1, _, _⟩ := hg i _ (List.getElem?_eq_getElem hil)
     rw [a1] at hi
     subst hi
     exact a1
    ·obtain ⟨u', a1, _, a3⟩ := hg i _ (List.getElem?_eq_getElem (by omega))
     exact ((e.keeps hh).cell (some 0) g (o + i) u' (Nat.zero_le _) (fun e => by cases e) a1 a3).2
  | snap b n cs =>
   simp only [B4] at h
   split at h
   case h_2 => cases h
   rename_i l m sz hb
   split at h
   ·cases h
   rename_i hcond
   simp only [not_or, Decidable.not_not] at hcond
   obtain ⟨_, rfl⟩ := hcond
   simp only [Option.map_eq_some_iff, Prod.exists, Prod.mk.injEq] at h
   obtain ⟨cs', H1, h1, rfl, rfl⟩ := h
   have hk := Fq.kill E b
   obtain ⟨e, r, p, l⟩ := ih cs (E.heap (E.H.set b .dead)) cs' H1 h1 (hh.kill b)
   simp only [AZ.Jm] at e r p
   refine ⟨hk.trans e, r, fun u hu => ?_⟩
   simp only [AA] at hu ⊢
   obtain ⟨_, ⟨A, cap, rfl, hc, ⟨g, o, hA, _, hr⟩, hcur⟩, _⟩ := hu
   obtain ⟨hA', c0, t0, hrow, _⟩ := (hcur _ _ _ hb).2 rfl
   rw [hA] at hA'
   simp only [Option.some.injEq, Addr.mk.injEq, and_true] at hA'
   obtain ⟨rfl, rfl⟩ := hA'
   refine ⟨Nat.le_refl _, A, cap, rfl, hc, .inr ⟨E.φ b, 0, hA, ?_⟩⟩
   have hg := CQ _ _ hr
   have hex : ∀ (i : Nat) v, cs[i]? = some v → ∃ u, E.w.cell? ⟨E.φ b, 0 + i, none⟩ = some u ∧ AA (E.heap (E.H.set b .dead)) v u := fun i v hi => let ⟨u, a1, a2, _⟩ := hg i v hi; ⟨u, a1, hk.rep hh _ _ a2⟩
   have hvs := DL (E := E.heap (E.H.set b .dead)) hex
   refine Gv (p _ hvs) (fun i u hi => ?_) (fun i hi => ?_)
   ·have hil : i < cs.length := by
     rcases Nat.lt_or_ge i cs.length with h | h
     ·exact h
     ·rw [List.getElem?_eq_none (by simp only [List.length_map, List.length_range]; exact h)] at hi; cases hi
    simp only [List.getElem?_map, List.getElem?_range hil, Option.map_some, Option.some.injEq] at hi
    obtain ⟨u', a1, _⟩ := hex i _ (List.getElem?_eq_getElem hil)
    simp only [AZ.Y1] at hi ⊢
    rw [a1] at hi
    simp only [Option.getD_some] at hi
    subst hi
    exact a1
   ·show ¬ (E.heap H1).U (some 0) (E.φ b) _
    refine PK (E' := E.heap H1) hh (b := b) (by rw [hb]; trivial) e.mono ?_ _ (Nat.zero_le _) _
    exact Array.getElem?_eq_some_iff.1 hrow |>.1
  | sl b off n =>
   simp only [B4] at h
   split at h
   case h_2 => cases h
   rename_i sz cs hb
   split at h
   ·cases h
   rename_i hlen
   simp only [Option.map_eq_some_iff, Prod.exists, Prod.mk.injEq] at h
   obtain ⟨cs', H1, h1, rfl, rfl⟩ := h
   have hk := Fq.kill E b
   obtain ⟨e, r, p, l⟩ := ih _ (E.heap (E.H.set b .dead)) cs' H1 h1 (hh.kill b)
   simp only [AZ.Jm] at e r p
   refine ⟨hk.trans e, r, fun u hu => ?_⟩
   simp only [AA] at hu ⊢
   obtain ⟨_, ⟨cap, rfl, hc⟩, _⟩ := hu
   refine ⟨Nat.le_refl _, _, cap, rfl, hc, .inr ⟨E.φ b, off, rfl, ?_⟩⟩
   obtain ⟨cc, t, q1, q2, q3⟩ := hh.cells b sz cs hb
   have hex : ∀ (i : Nat) v, ((cs.drop off).take (n * sz))[i]? = some v → ∃ u, E.w.cell? ⟨E.φ b, off + i, none⟩ = some u ∧ AA (E.heap (E.H.set b .dead)) v u := by
    intro i v hi
    rw [List.getElem?_take] at hi
    split at hi
    ·rw [List.getElem?_drop] at hi
     obtain ⟨u, k1, k2⟩ := q3 _ v hi
     exact ⟨u, by rw [cell_of_row _ _ _ _ _ _ q1]; exact k1, hk.rep hh _ _ k2⟩
    ·cases hi
   have hvs := DL (E := E.heap (E.H.set b .dead)) hex
   refine Gv (p _ hvs) (fun i u hi => ?_) (fun i hi => ?_)
   ·have hil : i < ((cs.drop off).take (n * sz)).length := by
     rcases Nat.lt_or_ge i ((cs.drop off).take (n * sz)).length with h | h
     ·exact h
     ·rw [List.getElem?_eq_none (by simp only [List.length_map, List.length_range]; exact h)] at hi; cases hi
    simp only [List.getElem?_map, List.getElem?_range hil, Option.map_some, Option.some.injEq] at hi
    obtain ⟨u', a1, _⟩ := hex i _ (List.getElem?_eq_getElem hil)
    simp only [AZ.Y1] at hi ⊢
    rw [a1] at hi
    simp only [Option.getD_some] at hi
    subst hi
    exact a1
   ·show ¬ (E.heap H1).U (some 0) (E.φ b) _
    refine PK (E' := E.heap H1) hh (b := b) (by rw [hb]; trivial) e.mono ?_ _ (Nat.zero_le _) _
    exact Array.getElem?_eq_some_iff.1 q1 |>.1
  | agg cs =>
   simp only [B4, Option.map_eq_some_iff, Prod.exists, Prod.mk.injEq] at h
   obtain ⟨cs', H1, h1, rfl, rfl⟩ := h
   obtain ⟨e, r, p, l⟩ := ih cs E cs' H1 h1 hh
   refine ⟨e, r, fun u hu => ?_⟩
   simp only [AA] at hu ⊢
   obtain ⟨vs, hv, hr⟩ := hu
   exact ⟨vs, hv, p _ hr⟩
theorem Io {f : A3 → V → Option (V × A3)} (hf : ∀ H v v' H', f H v = some (v', H') → H'.length = H.length ∧ ∀ (b sz : Nat) (cs : List V), H'[b]? = some (Bp.cells sz cs) → H[b]? = some (Bp.cells sz cs)) :
  ∀ (vs : List V) (H : A3) (vs' : List V) (H' : A3), B4.giveL f H vs = some (vs', H') → H'.length = H.length ∧ ∀ (b sz : Nat) (cs : List V), H'[b]? = some (Bp.cells sz cs) → H[b]? = some (Bp.cells sz cs)
 | [], H, vs', H', h => by
  simp only [B4.giveL, Option.some.injEq, Prod.mk.injEq] at h
  obtain ⟨_, rfl⟩ := h
  exact ⟨rfl, fun _ _ _ h => h⟩
 | v :: vs, H, vs', H', h => by
  simp only [B4.giveL, Option.bind_eq_some_iff, Option.map_eq_some_iff, Prod.exists, Prod.mk.injEq] at h
  obtain ⟨v1, H1, h1, vs2, H2, h2, _, rfl⟩ := h
  obtain ⟨l1, c1⟩ := hf H v v1 H1 h1
  obtain ⟨l2, c2⟩ := Io hf vs H1 vs2 H2 h2
  exact ⟨l2.trans l1, fun b sz cs h => c1 b sz cs (c2 b sz cs h)⟩
theorem P2 (H : A3) (b : Nat) : (H.set b .dead).length = H.length ∧ ∀ (x sz : Nat) (cs : List V), (H.set b .dead)[x]? = some (Bp.cells sz cs) → H[x]? = some (Bp.cells sz cs) := by
 refine ⟨by simp, fun x sz cs h => ?_⟩
 rw [Ae] at h
 split at h
 ·cases h
 ·exact h
theorem KO (lo : Nat) : ∀ (k : Nat) (H : A3) (v v' : V) (H' : A3), B4 lo k H v = some (v', H') → H'.length = H.length ∧ ∀ (b sz : Nat) (cs : List V), H'[b]? = some (Bp.cells sz cs) → H[b]? = some (Bp.cells sz cs)
 | 0, H, v, v', H', h => by simp [B4] at h
 | k + 1, H, v, v', H', h => by
  have same : (v', H') = (v, H) → H'.length = H.length ∧ ∀ (b sz : Nat) (cs : List V), H'[b]? = some (Bp.cells sz cs) → H[b]? = some (Bp.cells sz cs) := by
   intro e
   simp only [Prod.mk.injEq] at e
   obtain ⟨_, rfl⟩ := e
   exact ⟨rfl, fun _ _ _ h => h⟩
  have ih := Io fun (H : A3) (v v' : V) (H' : A3) (h : B4 lo k H v = some (v', H')) => KO lo k H v v' H' h
  cases v with
  | int _ _ => simp only [B4, Option.some.injEq] at h; exact same h.symm
  | bool _ => simp only [B4, Option.some.injEq] at h; exact same h.symm
  | str _ => simp only [B4, Option.some.injEq] at h; exact same h.symm
  | HW => simp only [B4, Option.some.injEq] at h; exact same h.symm
  | Eg => simp only [B4, Option.some.injEq] at h; exact same h.symm
  | ptr _ _ => simp [B4] at h
  | FF _ => simp [B4] at h
  | lp _ _ _ => simp [B4] at h
  | fn _ _ => simp [B4] at h
  | FH _ => simp [B4] at h
  | lit lv n cs =>
   simp only [B4] at h
   split at h
   ·simp only [Option.some.injEq] at h; exact same h.symm
   ·cases h
  | tl n cs =>
   simp only [B4, Option.map_eq_some_iff, Prod.exists, Prod.mk.injEq] at h
   obtain ⟨cs', H1, h1, _, rfl⟩ := h
   exact ih cs H cs' H1 h1
  | snap b n cs =>
   simp only [B4] at h
   split at h
   case h_2 => cases h
   split at h
   ·cases h
   simp only [Option.map_eq_some_iff, Prod.exists, Prod.mk.injEq] at h
   obtain ⟨cs', H1, h1, _, rfl⟩ := h
   obtain ⟨l1, c1⟩ := ih cs _ cs' H1 h1
   obtain ⟨l2, c2⟩ := P2 H b
   exact ⟨l1.trans l2, fun x sz cs h => c2 x sz cs (c1 x sz cs h)⟩
  | sl b off n =>
   simp only [B4] at h
   split at h
   case h_2 => cases h
   split at h
   ·cases h
   simp only [Option.map_eq_some_iff, Prod.exists, Prod.mk.injEq] at h
   obtain ⟨cs', H1, h1, _, rfl⟩ := h
   obtain ⟨l1, c1⟩ := ih _ _ cs' H1 h1
   obtain ⟨l2, c2⟩ := P2 H b
   exact ⟨l1.trans l2, fun x sz cs h => c2 x sz cs (c1 x sz cs h)⟩
  | agg cs =>
   simp only [B4, Option.map_eq_some_iff, Prod.exists, Prod.mk.injEq] at h
   obtain ⟨cs', H1, h1, _, rfl⟩ := h
   exact ih cs H cs' H1 h1
theorem HI (lo k : Nat) (H : A3) (v v' : V) (H' : A3) (h : B4 lo k H v = some (v', H')) : H'.length = H.length := (KO lo k H v v' H' h).1
theorem Om (lo k : Nat) (H : A3) (v v' : V) (H' : A3) (h : B4 lo k H v = some (v', H')) (b sz : Nat) (cs : List V) (hb : H'[b]? = some (.cells sz cs)) : H[b]? = some (.cells sz cs) := (KO lo k H v v' H' h).2 b sz cs hb
theorem CN.up {E : AZ} {lv lv' g o : Nat} {cs : List V} (hl : lv ≤ lv') (h : CN E (some lv) g o cs) : CN E (some lv') g o cs :=
 FA _ _ fun i v hi => let ⟨u, a1, a2, a3⟩ := CQ _ _ h i v hi; ⟨u, a1, a2, fun hu => a3 (AZ.Qq hl hu)⟩
theorem CN.all {E : AZ} (hh : CJ E) {lv g o : Nat} {cs : List V} (hl : E.lk.length ≤ lv) (h : CN E none g o cs) : CN E (some lv) g o cs :=
 FA _ _ fun i v hi => let ⟨u, a1, a2, a3⟩ := CQ _ _ h i v hi; ⟨u, a1, a2, fun hu => a3 (hh.sub hl hu)⟩
def AZ.lock (E : AZ) (L : List Nat) : AZ := { E with lk := E.lk ++ [L], m := E.m + 1 }
@[simp] theorem AZ.Eb (E : AZ) (L : List Nat) : (E.lock L).H = E.H := rfl
@[simp] theorem AZ.mT (E : AZ) (L : List Nat) : (E.lock L).w = E.w := rfl
@[simp] theorem AZ.LG (E : AZ) (L : List Nat) : (E.lock L).φ = E.φ := rfl
@[simp] theorem AZ.Rl (E : AZ) (L : List Nat) : (E.lock L).lk = E.lk ++ [L] := rfl
theorem CJ.lock {E : AZ} (h : CJ E) (L : List Nat) : CJ (E.lock L) where
 cells := fun b sz cs hb => let ⟨c, t, h1, h2, h3⟩ := h.cells b sz cs hb; ⟨c, t, h1, h2, fun i v hv => let ⟨u, h4, h5⟩ := h3 i v hv; ⟨u, h4, (CX.Dk E L h.dm).rep v u h5⟩⟩
 Br := h.Br
 lvl := fun b l n sz hb => by have := h.lvl b l n sz hb; simp only [AZ.Rl, List.length_append, List.length_singleton]; omega
 dm := by have := h.dm; simp only [AZ.Rl, List.length_append, List.length_singleton]; show E.m + 1 ≤ _; omega
 inj := h.inj
 maps := h.maps
 Bb := h.Bb
theorem LJ {E : AZ} (hh : CJ E) {b sz : Nat} {cs : List V} (hb : E.H[b]? = some (.cells sz cs)) {L : List Nat} (hL : b ∈ L) (i : Nat) : ¬ (E.lock L).U (some (E.lk.length + 1)) (E.φ b) i := by
 intro hu
 have hu' := hu
 rcases hu' with hu' | ⟨b', h1, h2, h3⟩
 ·exact (hh.Bb _ hu').2 b (by rw [hb]; trivial) rfl
 rcases Qr hu with hu2 | ⟨b2, k1, k2⟩
 ·exact (hh.Bb _ hu2).2 b (by rw [hb]; trivial) rfl
 have e1 := hh.inj b2 b k2 (by rw [hb]; trivial) k1
 subst e1
 have hl : live E.H[b']? := by
  simp only [AZ.Eb] at h3
  split at h3
  ·rename_i heq; rw [heq]; trivial
  ·rename_i heq; rw [heq]; trivial
  ·rename_i heq; rw [heq]; trivial
  ·exact h3.elim
 have := hh.inj b' b2 hl k2 h1
 subst this
 simp only [AZ.Rl] at h2
 rw [List.take_of_length_le (by simp)] at h2
 unfold AV at h2
 rw [List.all_eq_true] at h2
 have := h2 L (by simp)
 simp [hL] at this
theorem GS {E E' : AZ} {cs : List V} {g o : Nat} (hex : ∀ (i : Nat) v, cs[i]? = some v → ∃ u, E.w.cell? ⟨g, o + i, none⟩ = some u ∧ AA E v u) {cs' : List V}
  (hp : ∀ us, AP E cs us → AP E' cs' us) (hl : cs'.length = cs.length) (hw : E'.w = E.w) {lv : Option Nat} (hu : ∀ i, i < cs.length → ¬ E'.U lv g (o + i)) : CN E' lv g o cs' := by
 refine Gv (hp _ (DL hex)) (fun i u hi => ?_) (fun i hi => hu i (by omega))
 have hil : i < cs.length := by
  rcases Nat.lt_or_ge i cs.length with h | h
  ·exact h
  ·rw [List.getElem?_eq_none (by simp only [List.length_map, List.length_range]; exact h)] at hi; cases hi
 simp only [List.getElem?_map, List.getElem?_range hil, Option.map_some, Option.some.injEq] at hi
 obtain ⟨u', a1, _⟩ := hex i _ (List.getElem?_eq_getElem hil)
 rw [a1] at hi
 simp only [Option.getD_some] at hi
 subst hi
 rw [hw]
 exact a1
theorem QO {E : AZ} {f : V → Option (V × List Nat)} {L : List Nat} (hf : ∀ v v' M, f v = some (v', M) → (∀ x ∈ M, x ∈ L) → ∀ u, AA E v u → AA (E.lock L) v' u) :
  ∀ (vs vs' : List V) (M : List Nat), Ao.lendL f vs = some (vs', M) → (∀ x ∈ M, x ∈ L) → (∀ us, AP E vs us → AP (E.lock L) vs' us) ∧ vs'.length = vs.length
 | [], vs', M, h, _ => by
  simp only [Ao.lendL, Option.some.injEq, Prod.mk.injEq] at h
  obtain ⟨rfl, rfl⟩ := h
  exact ⟨fun us hu => by simpa only [AP] using hu, rfl⟩
 | v :: vs, vs', M, h, hM => by
  simp only [Ao.lendL, Option.bind_eq_some_iff, Option.map_eq_some_iff, Prod.exists, Prod.mk.injEq] at h
  obtain ⟨v1, M1, h1, vs2, M2, h2, rfl, rfl⟩ := h
  obtain ⟨p, l⟩ := QO hf vs vs2 M2 h2 (fun x hx => hM x (by simp [hx]))
  refine ⟨fun us hu => ?_, by simp [l]⟩
  simp only [AP] at hu ⊢
  obtain ⟨u, us', rfl, hu1, hu2⟩ := hu
  exact ⟨u, us', rfl, hf v v1 M1 h1 (fun x hx => hM x (by simp [hx])) u hu1, p us' hu2⟩
theorem P5 {E : AZ} (hm : E.lk.length = E.m) (hh : CJ E) {L : List Nat} : ∀ (k : Nat) (v v' : V) (M : List Nat), Ao (E.lk.length + 1) E.H k v = some (v', M) → (∀ x ∈ M, x ∈ L) → ∀ u, AA E v u → AA (E.lock L) v' u
 | 0, v, v', M, h, _ => by simp [Ao] at h
 | k + 1, v, v', M, h, hM => by
  intro u hu
  have hup : AA (E.lock L) v u := (CX.Dk E L hh.dm).rep v u hu
  have ih := QO (E := E) (L := L) (f := Ao (E.lk.length + 1) E.H k) fun v v' M h hM => P5 hm hh k v v' M h hM
  cases v with
  | int _ _ => simp only [Ao, Option.some.injEq, Prod.mk.injEq] at h; obtain ⟨rfl, rfl⟩ := h; exact hup
  | bool _ => simp only [Ao, Option.some.injEq, Prod.mk.injEq] at h; obtain ⟨rfl, rfl⟩ := h; exact hup
  | str _ => simp only [Ao, Option.some.injEq, Prod.mk.injEq] at h; obtain ⟨rfl, rfl⟩ := h; exact hup
  | HW => simp only [Ao, Option.some.injEq, Prod.mk.injEq] at h; obtain ⟨rfl, rfl⟩ := h; exact hup
  | Eg => simp only [Ao, Option.some.injEq, Prod.mk.injEq] at h; obtain ⟨rfl, rfl⟩ := h; exact hup
  | ptr _ _ => simp only [Ao, Option.some.injEq, Prod.mk.injEq] at h; obtain ⟨rfl, rfl⟩ := h; exact hup
  | FF _ => simp only [Ao, Option.some.injEq, Prod.mk.injEq] at h; obtain ⟨rfl, rfl⟩ := h; exact hup
  | lp _ _ _ => simp only [Ao, Option.some.injEq, Prod.mk.injEq] at h; obtain ⟨rfl, rfl⟩ := h; exact hup
  | lit _ _ _ => simp only [Ao, Option.some.injEq, Prod.mk.injEq] at h; obtain ⟨rfl, rfl⟩ := h; exact hup
  | fn _ _ => simp only [Ao, Option.some.injEq, Prod.mk.injEq] at h; obtain ⟨rfl, rfl⟩ := h; exact hup
  | FH _ => simp [Ao] at h
  | tl n cs =>
   simp only [Ao, Option.map_eq_some_iff, Prod.exists, Prod.mk.injEq] at h
   obtain ⟨cs', M1, h1, rfl, rfl⟩ := h
   obtain ⟨p, l⟩ := ih cs cs' M1 h1 hM
   simp only [AA] at hu ⊢
   obtain ⟨A, rfl, hA⟩ := hu
   refine ⟨by show _ ≤ E.m + 1; omega, A, n, rfl, Nat.le_refl _, ?_⟩
   rcases hA with hA | ⟨g, o, hA, hr⟩
   ·exact .inl hA
   ·refine .inr ⟨g, o, hA, CN.up (Nat.zero_le _) <| GS (fun i v hi => let ⟨u, a1, a2, _⟩ := CQ _ _ hr i v hi; ⟨u, a1, a2⟩) p l rfl fun i hi => ?_⟩
    obtain ⟨u', a1, _, a3⟩ := CQ _ _ hr i _ (List.getElem?_eq_getElem hi)
    exact ((CX.Dk E L hh.dm).cell (some 0) g (o + i) u' (Nat.zero_le _) (fun e => by cases e) a1 a3).2
  | snap b n cs =>
   simp only [Ao, Option.map_eq_some_iff, Prod.exists, Prod.mk.injEq] at h
   obtain ⟨cs', M1, h1, rfl, rfl⟩ := h
   obtain ⟨p, l⟩ := ih cs cs' M1 h1 hM
   simp only [AA] at hu ⊢
   obtain ⟨_, ⟨A, cap, rfl, hc, ⟨g, o, hA, haw, hr⟩, _⟩, _⟩ := hu
   refine ⟨by show _ ≤ E.m + 1; omega, A, cap, rfl, hc, .inr ⟨g, o, hA, CN.all (hh.lock L) (by simp) (GS (fun i v hi => let ⟨u, a1, a2, _⟩ := CQ _ _ hr i v hi; ⟨u, a1, a2⟩) p l rfl fun i hi => ?_)⟩⟩
   obtain ⟨u', a1, _, a3⟩ := CQ _ _ hr i _ (List.getElem?_eq_getElem hi)
   exact ((CX.Dk E L hh.dm).cell none g (o + i) u' trivial (fun _ => haw (by omega)) a1 a3).2
  | sl b off n =>
   simp only [Ao] at h
   split at h
   case h_2 => cases h
   rename_i sz cs hb
   split at h
   ·cases h
   simp only [Option.map_eq_some_iff, Prod.exists, Prod.mk.injEq] at h
   obtain ⟨cs', M1, h1, rfl, rfl⟩ := h
   obtain ⟨p, l⟩ := ih _ cs' M1 h1 (fun x hx => hM x (by simp [hx]))
   simp only [AA] at hu ⊢
   obtain ⟨_, ⟨cap, rfl, hc⟩, _⟩ := hu
   refine ⟨by show _ ≤ E.m + 1; omega, _, cap, rfl, hc, .inr ⟨E.φ b, off, rfl, ?_⟩⟩
   obtain ⟨cc, t, q1, q2, q3⟩ := hh.cells b sz cs hb
   refine GS (fun i v hi => ?_) p l rfl fun i hi => LJ hh hb (hM b (by simp)) _
   rw [List.getElem?_take] at hi
   split at hi
   ·rw [List.getElem?_drop] at hi
    obtain ⟨u, k1, k2⟩ := q3 _ v hi
    exact ⟨u, by rw [cell_of_row _ _ _ _ _ _ q1]; exact k1, k2⟩
   ·cases hi
  | agg cs =>
   simp only [Ao, Option.map_eq_some_iff, Prod.exists, Prod.mk.injEq] at h
   obtain ⟨cs', M1, h1, rfl, rfl⟩ := h
   obtain ⟨p, l⟩ := ih cs cs' M1 h1 hM
   simp only [AA] at hu ⊢
   obtain ⟨vs, hv, hr⟩ := hu
   exact ⟨vs, hv, p _ hr⟩
theorem Hw {E : AZ} {x : V} {u : Value} (h : AA E x u) (ht : ∀ vs, x ≠ .FH vs) : AP E x.cellsOf u.cells.toList := by
 cases x with
 | agg cs => simp only [AA] at h; obtain ⟨vs, rfl, hr⟩ := h; exact hr
 | FH vs => exact absurd rfl (ht vs)
 | _ =>
  have h' := h
  simp only [V.cellsOf, AP]
  refine ⟨u, [], ?_, h, rfl⟩
  simp only [AA] at h'
  first
   | (subst h'; rfl)
   | (obtain ⟨_, h1, _⟩ := h'; subst h1; rfl)
   | (obtain ⟨_, ⟨_, h1, _⟩, _⟩ := h'; subst h1; rfl)
   | (obtain ⟨_, _, _, h1, _⟩ := h'; subst h1; rfl)
   | (obtain ⟨_, ⟨_, _, h1, _⟩, _⟩ := h'; subst h1; rfl)
theorem Ms {E : AZ} {x : V} {u : Value} (h : AA E x u) (hc : x.Bh = true) : u.oneCell' = true := by
 cases x with
 | agg cs => simp [V.Bh] at hc
 | FH vs => simp [V.Bh] at hc
 | _ =>
  have h' := h
  simp only [AA] at h'
  first
   | (subst h'; rfl)
   | (obtain ⟨_, h1, _⟩ := h'; subst h1; rfl)
   | (obtain ⟨_, ⟨_, h1, _⟩, _⟩ := h'; subst h1; rfl)
   | (obtain ⟨_, _, _, h1, _⟩ := h'; subst h1; rfl)
   | (obtain ⟨_, ⟨_, _, h1, _⟩, _⟩ := h'; subst h1; rfl)
structure Fc (E E' : AZ) (c : Array Value) (t : TypeId) (Ad : Bp) : Prop where
 heap : E'.w.heap = E.w.heap.push (.cells c t (0, 0))
 os : E'.w.os = E.w.os
 tape : E'.w.tape = E.w.tape
 output : E'.w.output = E.w.output
 CI : ∀ b, E'.φ b = if b = E.H.length then E.w.heap.size else E.φ b
 H : E'.H = E.H ++ [Ad]
 lk : E'.lk = E.lk
 n : E'.n = E.n + 1
 m : E'.m = E.m
 Bb : E'.Bb = E.Bb
 n0 : E.n = E.H.length
theorem Fc.Bm {E E' : AZ} {c : Array Value} {t : TypeId} {Ad : Bp} (h : Fc E E' c t Ad) (b : Nat) : E'.H[b]? = if b = E.H.length then some Ad else E.H[b]? := by
 rw [h.H]
 by_cases hb : b = E.H.length
 ·subst hb; simp
 ·rw [if_neg hb]
  rcases Nat.lt_or_ge b E.H.length with hl | hl
  ·rw [List.getElem?_append_left hl]
  ·rw [List.getElem?_eq_none (by simp; omega), List.getElem?_eq_none hl]
theorem Fc.CV {E E' : AZ} {c : Array Value} {t : TypeId} {Ad : Bp} (h : Fc E E' c t Ad) (g : Nat) : E'.w.heap[g]? = if g = E.w.heap.size then some (.cells c t (0, 0)) else E.w.heap[g]? := by
 rw [h.heap, Array.getElem?_push]
theorem Fc.Ch {E E' : AZ} {c : Array Value} {t : TypeId} {Ad : Bp} (h : Fc E E' c t Ad) : Fq E E' where
 lk := h.lk
 os := h.os
 tape := h.tape
 output := h.output
 size := by rw [h.heap]; simp
 len := by rw [h.n]; omega
 mm := h.m
 cell := by
  intro g i u hc _
  have hg := GM hc
  simp only [World.cell?, h.CV g] at hc ⊢
  rw [if_neg (by simp at hg; omega)]
  exact hc
 block := by
  intro g hg _
  rw [h.CV g, if_neg (by omega)]
 mono := by
  intro lv g i _ hu
  rcases hu with hu | hu
  ·exact .inl (.inl (by rw [h.Bb] at hu; exact hu))
  cases lv with
  | some lv =>
   obtain ⟨b, h1, h2, h3⟩ := hu
   rw [h.lk] at h2
   rw [h.Bm b] at h3
   rw [h.CI b] at h1
   by_cases hb : b = E.H.length
   ·rw [if_pos hb] at h1; right; omega
   ·rw [if_neg hb] at h1 h3
    exact .inl (.inr ⟨b, h1, h2, h3⟩)
  | none =>
   obtain ⟨b, h1, h3⟩ := hu
   rw [h.Bm b] at h3
   rw [h.CI b] at h1
   by_cases hb : b = E.H.length
   ·rw [if_pos hb] at h1; right; omega
   ·rw [if_neg hb] at h1 h3
    exact .inl (.inr ⟨b, h1, h3⟩)
 CI := by
  intro b hb hn
  have : b ≠ E.H.length := by have := h.n0; omega
  refine ⟨by rw [h.CI b, if_neg this], fun l n sz => ?_⟩
  rw [h.Bm b, if_neg this]
  exact hn l n sz
 cells := by
  intro b hb hn sz cs
  have : b ≠ E.H.length := by have := h.n0; omega
  rw [h.Bm b, if_neg this]
  exact hn sz cs
 Br := by
  intro b l n' sz' hb hB
  have hne : b ≠ E.H.length := by have := h.n0; omega
  rw [h.Bm b, if_neg hne] at hB
  refine ⟨n', hB, Nat.le_refl _, fun _ => ⟨by rw [h.CI b, if_neg hne], fun c' t' hc => ⟨c', ?_, rfl⟩⟩⟩
  rw [h.CV]
  split
  ·rename_i he
   have := Array.getElem?_eq_some_iff.1 hc |>.1
   omega
  ·exact hc
 fresh := by
  intro b hl
  rw [h.Bm b] at hl
  rw [h.CI b]
  by_cases hb : b = E.H.length
  ·rw [if_pos hb]; exact .inr (Nat.le_refl _)
  ·rw [if_neg hb] at hl ⊢; exact .inl ⟨rfl, hl⟩
 Bb := fun g hg => by rw [h.Bb]; exact hg
 Hr := fun g hg => .inl (by rw [h.Bb] at hg; exact hg)
 H5 := fun g _ hl => by rw [h.CV g, if_neg (by omega)]
theorem Fc.rel {E E' : AZ} {c : Array Value} {t : TypeId} {Ad : Bp} (h : Fc E E' c t Ad) (hh : CJ E)
  (hc : ∀ sz cs, Ad = .cells sz cs → cs.length ≤ c.size ∧ ∀ (i : Nat) v, cs[i]? = some v → ∃ u, c[i]? = some u ∧ AA E v u) (hb : ∀ l n sz, Ad = .Br l n sz → n * sz ≤ c.size ∧ l ≤ E.lk.length) (hm : ∀ BJ, Ad ≠ .mp BJ := by intro _ e; cases e) : CJ E' where
 cells := by
  intro b sz cs hB
  rw [h.Bm b] at hB
  rw [h.CI b]
  split at hB
  ·rename_i he
   rw [if_pos he, h.CV, if_pos rfl]
   simp only [Option.some.injEq] at hB
   obtain ⟨h1, h2⟩ := hc sz cs hB
   exact ⟨c, t, rfl, h1, fun i v hv => let ⟨u, h3, h4⟩ := h2 i v hv; ⟨u, h3, h.Ch.rep hh v u h4⟩⟩
  ·rename_i he
   obtain ⟨c', t', h1, h2, h3⟩ := hh.cells b sz cs hB
   rw [if_neg he, h.CV, if_neg (by have := Array.getElem?_eq_some_iff.1 h1 |>.1; omega)]
   exact ⟨c', t', h1, h2, fun i v hv => let ⟨u, h4, h5⟩ := h3 i v hv; ⟨u, h4, h.Ch.rep hh v u h5⟩⟩
 dm := by rw [h.m, h.lk]; exact hh.dm
 lvl := by
  intro b l n sz hB
  rw [h.Bm b] at hB
  rw [h.lk]
  split at hB
  ·simp only [Option.some.injEq] at hB
   exact (hb l n sz hB).2
  ·exact hh.lvl b l n sz hB
 Br := by
  intro b l n sz hB
  rw [h.Bm b] at hB
  rw [h.CI b]
  split at hB
  ·rename_i he
   rw [if_pos he, h.CV, if_pos rfl]
   simp only [Option.some.injEq] at hB
   exact ⟨c, t, rfl, (hb l n sz hB).1⟩
  ·rename_i he
   obtain ⟨c', t', h1, h2⟩ := hh.Br b l n sz hB
   rw [if_neg he, h.CV, if_neg (by have := Array.getElem?_eq_some_iff.1 h1 |>.1; omega)]
   exact ⟨c', t', h1, h2⟩
 maps := by
  intro b BJ hB
  rw [h.Bm b] at hB
  rw [h.CI b]
  split at hB
  ·simp only [Option.some.injEq] at hB
   exact absurd hB (hm BJ)
  ·rename_i he
   obtain ⟨h1, h2⟩ := hh.maps b BJ hB
   rw [if_neg he, h.CV, if_neg (by have := Array.getElem?_eq_some_iff.1 h1 |>.1; omega)]
   exact ⟨h1, h2⟩
 inj := by
  have hlt : ∀ b, live E.H[b]? → E.φ b < E.w.heap.size := by
   intro b hl
   cases hB : E.H[b]? with
   | none => rw [hB] at hl; exact hl.elim
   | some x =>
    cases x with
    | cells sz cs => obtain ⟨_, _, h1, _⟩ := hh.cells b sz cs hB; exact Array.getElem?_eq_some_iff.1 h1 |>.1
    | Br l n sz => obtain ⟨_, _, h1, _⟩ := hh.Br b l n sz hB; exact Array.getElem?_eq_some_iff.1 h1 |>.1
    | mp BJ => exact Array.getElem?_eq_some_iff.1 (hh.maps b BJ hB).1 |>.1
    | dead => rw [hB] at hl; exact hl.elim
  intro b b' h1 h2 he
  rw [h.Bm] at h1 h2
  rw [h.CI, h.CI] at he
  by_cases hb : b = E.H.length <;> by_cases hb' : b' = E.H.length
  ·omega
  ·rw [if_pos hb, if_neg hb'] at he
   rw [if_neg hb'] at h2
   have := hlt b' h2
   omega
  ·rw [if_neg hb, if_pos hb'] at he
   rw [if_neg hb] at h1
   have := hlt b h1
   omega
  ·rw [if_neg hb, if_neg hb'] at he
   rw [if_neg hb] at h1
   rw [if_neg hb'] at h2
   exact hh.inj b b' h1 h2 he
 Bb := fun g hg => by
  rw [h.Bb] at hg
  obtain ⟨h1, h2⟩ := hh.Bb g hg
  refine ⟨by rw [h.heap, Array.size_push]; omega, fun b hl => ?_⟩
  rw [h.Bm] at hl
  rw [h.CI]
  by_cases hb : b = E.H.length
  ·rw [if_pos hb]; omega
  ·rw [if_neg hb] at hl ⊢; exact h2 b hl
theorem Ek {E : AZ} (hh : CJ E) {b : Nat} (hl : live E.H[b]?) : E.φ b < E.w.heap.size := by
 cases hB : E.H[b]? with
 | none => rw [hB] at hl; exact hl.elim
 | some x =>
  cases x with
  | cells sz cs => obtain ⟨_, _, h1, _⟩ := hh.cells b sz cs hB; exact Array.getElem?_eq_some_iff.1 h1 |>.1
  | Br l n sz => obtain ⟨_, _, h1, _⟩ := hh.Br b l n sz hB; exact Array.getElem?_eq_some_iff.1 h1 |>.1
  | mp BJ => exact Array.getElem?_eq_some_iff.1 (hh.maps b BJ hB).1 |>.1
  | dead => rw [hB] at hl; exact hl.elim
def D4 (E : AZ) (base nb d : Nat) : Prop :=
 ∀ b sz cs, b < base → E.H[b]? = some (.cells sz cs) → ∀ c t, E.w.heap[E.φ b]? = some (.cells c t (0, 0)) → ∀ (i : Nat) v u, cs[i]? = some v → c[i]? = some u → AA (E.shrink nb d) v u
theorem D4.up {E : AZ} {base nb nb' d : Nat} (h : D4 E base nb d) (hn : nb ≤ nb') : D4 E base nb' d :=
 fun b sz cs h1 h2 c t h3 i v u h4 h5 => (CX.grow (E.shrink nb' d) hn (Nat.le_refl _)).rep v u (h b sz cs h1 h2 c t h3 i v u h4 h5)
theorem Fc.DB {E E' : AZ} {c : Array Value} {t : TypeId} {Ad : Bp} (h : Fc E E' c t Ad) {base nb d : Nat} (hb : base ≤ E.n) (hnb : nb ≤ E.n) (hd : d ≤ E.m) (hf : D4 E base nb d) (hh : CJ E) : D4 E' base nb d := by
 intro b sz cs hlt hB c' t' hc i v u hv hu
 have hne : b ≠ E.H.length := by have := h.n0; omega
 rw [h.Bm, if_neg hne] at hB
 rw [h.CI, if_neg hne, h.CV] at hc
 split at hc
 ·rename_i he
  have := Ek hh (b := b) (by rw [hB]; trivial)
  omega
 ·exact (h.Ch.shrink hh hnb hd).rep v u (hf b sz cs hlt hB c' t' hc i v u hv hu)
structure H7 (E E' : AZ) (b : Nat) (c c' : Array Value) (t : TypeId) (Ad : Bp) : Prop where
 w : E'.w = E.w.setRow (E.φ b) c'
 row : E.w.heap[E.φ b]? = some (.cells c t (0, 0))
 size : c'.size = c.size
 CI : E'.φ = E.φ
 H : E'.H = E.H.set b Ad
 lk : E'.lk = E.lk
 n : E'.n = E.n
 m : E'.m = E.m
 Bb : E'.Bb = E.Bb
 n0 : E.n = E.H.length
 free : AV E.lk b = true
 Mo : E.φ b ∉ E.Bb
 kind : (∃ sz cs cs', E.H[b]? = some (.cells sz cs) ∧ Ad = .cells sz cs') ∨ (∃ l n n' sz, E.H[b]? = some (.Br l n sz) ∧ Ad = .Br l n' sz ∧ n < n' ∧ ∀ i, i < n * sz → c'[i]? = c[i]?)
theorem H7.lt {E E' : AZ} {b : Nat} {c c' : Array Value} {t : TypeId} {Ad : Bp} (h : H7 E E' b c c' t Ad) : b < E.H.length := by
 rcases Nat.lt_or_ge b E.H.length with hl | hl
 ·exact hl
 ·rcases h.kind with ⟨_, _, _, hb, _⟩ | ⟨_, _, _, _, hb, _⟩ <;> (rw [List.getElem?_eq_none hl] at hb; cases hb)
theorem H7.Bm {E E' : AZ} {b : Nat} {c c' : Array Value} {t : TypeId} {Ad : Bp} (h : H7 E E' b c c' t Ad) (x : Nat) : E'.H[x]? = if b = x then some Ad else E.H[x]? := by
 rw [h.H, Ae]
 simp [h.lt]
theorem H7.CV {E E' : AZ} {b : Nat} {c c' : Array Value} {t : TypeId} {Ad : Bp} (h : H7 E E' b c c' t Ad) (g : Nat) : E'.w.heap[g]? = if g = E.φ b then some (.cells c' t (0, 0)) else E.w.heap[g]? := by
 rw [h.w]
 by_cases hg : g = E.φ b
 ·subst hg; rw [if_pos rfl]; exact setRow_heap _ _ _ _ _ _ h.row
 ·rw [if_neg hg]; exact setRow_other _ _ _ _ hg
theorem H7.Ch {E E' : AZ} {b : Nat} {c c' : Array Value} {t : TypeId} {Ad : Bp} (h : H7 E E' b c c' t Ad) : Fq E E' where
 lk := h.lk
 os := by rw [h.w]; rfl
 tape := by rw [h.w]; rfl
 output := by rw [h.w]; rfl
 size := by rw [h.w]; simp
 len := by rw [h.n]; exact Nat.le_refl _
 mm := h.m
 cell := by
  intro g i u hc hu
  simp only [World.cell?, h.CV g] at hc ⊢
  by_cases hg : g = E.φ b
  ·subst hg
   rw [if_pos rfl]
   rw [h.row] at hc
   simp only [Option.isSome_none, Bool.false_eq_true, if_false] at hc ⊢
   rcases h.kind with ⟨sz, cs, cs', hb, _⟩ | ⟨l, n, n', sz, hb, _, _, hk⟩
   ·refine absurd (.inr ⟨b, rfl, Eh _ h.free, ?_⟩) hu
    rw [hb]; trivial
   ·rcases Nat.lt_or_ge i (n * sz) with hi | hi
    ·rw [hk i hi]; exact hc
    ·refine absurd (.inr ⟨b, rfl, Eh _ h.free, ?_⟩) hu
     rw [hb]; exact .inr hi
  ·rw [if_neg hg]; exact hc
 block := by
  intro g hg hu
  rw [h.CV g]
  split
  ·rename_i he
   subst he
   rcases h.kind with ⟨sz, cs, cs', hb, _⟩ | ⟨l, n, n', sz, hb, _, _, hk⟩
   ·refine absurd (.inr ⟨b, rfl, Eh _ h.free, ?_⟩) (hu 0)
    rw [hb]; trivial
   ·refine absurd (.inr ⟨b, rfl, Eh _ h.free, ?_⟩) (hu (n * sz))
    rw [hb]; exact .inr (Nat.le_refl _)
  ·rfl
 mono := by
  intro lv g i _ hu
  rcases hu with hu | hu
  ·exact .inl (.inl (by rw [h.Bb] at hu; exact hu))
  cases lv with
  | some lv =>
   obtain ⟨x, h1, h2, h3⟩ := hu
   rw [h.lk] at h2
   rw [h.CI] at h1
   rw [h.Bm x] at h3
   refine .inl (.inr ⟨x, h1, h2, ?_⟩)
   by_cases hb : b = x
   ·subst hb
    rw [if_pos rfl] at h3
    rcases h.kind with ⟨sz, cs, cs', hb, rfl⟩ | ⟨l, n, n', sz, hb, rfl, hn, hk⟩
    ·rw [hb]; trivial
    ·rw [hb]
     rcases h3 with h3 | h3
     ·exact .inl h3
     ·exact .inr (Nat.le_trans (Nat.mul_le_mul_right _ (Nat.le_of_lt hn)) h3)
   ·rw [if_neg hb] at h3; exact h3
  | none =>
   obtain ⟨x, h1, h3⟩ := hu
   rw [h.CI] at h1
   rw [h.Bm x] at h3
   refine .inl (.inr ⟨x, h1, ?_⟩)
   by_cases hb : b = x
   ·subst hb
    rw [if_pos rfl] at h3
    rcases h.kind with ⟨sz, cs, cs', hb, rfl⟩ | ⟨l, n, n', sz, hb, rfl, hn, hk⟩
    ·rw [hb]; trivial
    ·rw [hb]
     exact Nat.le_trans (Nat.mul_le_mul_right _ (Nat.le_of_lt hn)) h3
   ·rw [if_neg hb] at h3; exact h3
 CI := by
  intro x hx hn
  refine ⟨by rw [h.CI], fun l n sz => ?_⟩
  rw [h.Bm x]
  split
  ·rename_i hb
   subst hb
   rcases h.kind with ⟨sz, cs, cs', hb, rfl⟩ | ⟨l, n, n', sz, hb, rfl, _, hk⟩
   ·simp
   ·exact absurd hb (hn _ _ _)
  ·exact hn l n sz
 cells := by
  intro x hx hn sz cs
  rw [h.Bm x]
  split
  ·rename_i hb
   subst hb
   rcases h.kind with ⟨sz, cs, cs', hb, rfl⟩ | ⟨l, n, n', sz, hb, rfl, _, hk⟩
   ·exact absurd hb (hn _ _)
   ·simp
  ·exact hn sz cs
 Br := by
  intro x l n' sz' hx hB
  rw [h.Bm x] at hB
  by_cases hb : b = x
  ·subst hb
   rw [if_pos rfl] at hB
   simp only [Option.some.injEq] at hB
   rcases h.kind with ⟨sz, cs, cs', hb, rfl⟩ | ⟨l, n, n2, sz, hb, rfl, hn, hk⟩
   ·cases hB
   ·simp only [Bp.Br.injEq] at hB
    obtain ⟨rfl, rfl, rfl⟩ := hB
    exact ⟨n, hb, Nat.le_of_lt hn, fun e => absurd e (Nat.ne_of_lt hn)⟩
  ·rw [if_neg hb] at hB
   refine ⟨n', hB, Nat.le_refl _, fun _ => ⟨by rw [h.CI], fun c2 t2 hc => ?_⟩⟩
   rw [h.CV]
   split
   ·rename_i he
    rw [he, h.row] at hc
    simp only [Option.some.injEq, Obj.cells.injEq] at hc
    obtain ⟨rfl, rfl, _⟩ := hc
    exact ⟨c', rfl, h.size⟩
   ·exact ⟨c2, hc, rfl⟩
 fresh := by
  intro x hl
  rw [h.Bm x] at hl
  rw [h.CI]
  refine .inl ⟨rfl, ?_⟩
  by_cases hb : b = x
  ·subst hb
   rcases h.kind with ⟨_, _, _, hb, _⟩ | ⟨_, _, _, _, hb, _⟩ <;> (rw [hb]; trivial)
  ·rw [if_neg hb] at hl; exact hl
 Bb := fun g hg => by rw [h.Bb]; exact hg
 Hr := fun g hg => .inl (by rw [h.Bb] at hg; exact hg)
 H5 := fun g hg _ => by rw [h.CV g, if_neg (fun e => h.Mo (by rw [← e]; exact hg))]
theorem H7.rel {E E' : AZ} {b : Nat} {c c' : Array Value} {t : TypeId} {Ad : Bp} (h : H7 E E' b c c' t Ad) (hh : CJ E)
  (hc : ∀ sz cs, Ad = .cells sz cs → cs.length ≤ c'.size ∧ ∀ (i : Nat) v, cs[i]? = some v → ∃ u, c'[i]? = some u ∧ AA E v u) (hb : ∀ l n sz, Ad = .Br l n sz → n * sz ≤ c'.size) : CJ E' where
 cells := by
  intro x sz cs hB
  rw [h.Bm x] at hB
  rw [h.CI]
  by_cases hx : b = x
  ·subst hx
   rw [if_pos rfl] at hB
   simp only [Option.some.injEq] at hB
   obtain ⟨h1, h2⟩ := hc sz cs hB
   rw [h.CV, if_pos rfl]
   exact ⟨c', t, rfl, h1, fun i v hv => let ⟨u, h3, h4⟩ := h2 i v hv; ⟨u, h3, h.Ch.rep hh v u h4⟩⟩
  ·rw [if_neg hx] at hB
   obtain ⟨c2, t2, h1, h2, h3⟩ := hh.cells x sz cs hB
   have hne : E.φ x ≠ E.φ b := fun e => hx (hh.inj b x (by rcases h.kind with ⟨_, _, _, hb, _⟩ | ⟨_, _, _, _, hb, _⟩ <;> (rw [hb]; trivial)) (by rw [hB]; trivial) e.symm)
   rw [h.CV, if_neg hne]
   exact ⟨c2, t2, h1, h2, fun i v hv => let ⟨u, h4, h5⟩ := h3 i v hv; ⟨u, h4, h.Ch.rep hh v u h5⟩⟩
 dm := by rw [h.m, h.lk]; exact hh.dm
 lvl := by
  intro x l n sz hB
  rw [h.Bm x] at hB
  rw [h.lk]
  by_cases hx : b = x
  ·subst hx
   rw [if_pos rfl] at hB
   simp only [Option.some.injEq] at hB
   rcases h.kind with ⟨sz, cs, cs', hk, rfl⟩ | ⟨l, n, n2, sz, hk, rfl, hn, _⟩
   ·cases hB
   ·simp only [Bp.Br.injEq] at hB
    obtain ⟨rfl, rfl, rfl⟩ := hB
    exact hh.lvl _ _ _ _ hk
  ·rw [if_neg hx] at hB
   exact hh.lvl x l n sz hB
 Br := by
  intro x l n sz hB
  rw [h.Bm x] at hB
  rw [h.CI]
  by_cases hx : b = x
  ·subst hx
   rw [if_pos rfl] at hB
   simp only [Option.some.injEq] at hB
   rw [h.CV, if_pos rfl]
   exact ⟨c', t, rfl, hb l n sz hB⟩
  ·rw [if_neg hx] at hB
   obtain ⟨c2, t2, h1, h2⟩ := hh.Br x l n sz hB
   have hne : E.φ x ≠ E.φ b := fun e => hx (hh.inj b x (by rcases h.kind with ⟨_, _, _, hb, _⟩ | ⟨_, _, _, _, hb, _⟩ <;> (rw [hb]; trivial)) (by rw [hB]; trivial) e.symm)
   rw [h.CV, if_neg hne]
   exact ⟨c2, t2, h1, h2⟩
 maps := by
  intro x BJ hB
  rw [h.Bm x] at hB
  rw [h.CI]
  by_cases hx : b = x
  ·subst hx
   rw [if_pos rfl] at hB
   simp only [Option.some.injEq] at hB
   rcases h.kind with ⟨sz, cs, cs', hk, rfl⟩ | ⟨l, n, n2, sz, hk, rfl, hn, _⟩
   ·cases hB
   ·cases hB
  ·rw [if_neg hx] at hB
   obtain ⟨h1, h2⟩ := hh.maps x BJ hB
   have hne : E.φ x ≠ E.φ b := fun e => hx (hh.inj b x (by rcases h.kind with ⟨_, _, _, hb, _⟩ | ⟨_, _, _, _, hb, _⟩ <;> (rw [hb]; trivial)) (by rw [hB]; trivial) e.symm)
   rw [h.CV, if_neg hne]
   exact ⟨h1, h2⟩
 inj := by
  have hl : live E.H[b]? := by rcases h.kind with ⟨_, _, _, hb, _⟩ | ⟨_, _, _, _, hb, _⟩ <;> (rw [hb]; trivial)
  intro x y h1 h2 he
  rw [h.Bm] at h1 h2
  rw [h.CI] at he
  refine hh.inj x y ?_ ?_ he
  ·by_cases hx : b = x
   ·subst hx; exact hl
   ·rw [if_neg hx] at h1; exact h1
  ·by_cases hx : b = y
   ·subst hx; exact hl
   ·rw [if_neg hx] at h2; exact h2
 Bb := fun g hg => by
  rw [h.Bb] at hg
  obtain ⟨h1, h2⟩ := hh.Bb g hg
  refine ⟨by rw [h.w]; simpa using h1, fun x hl => ?_⟩
  rw [h.Bm] at hl
  rw [h.CI]
  by_cases hx : b = x
  ·subst hx; exact fun e => h.Mo (e ▸ hg)
  ·rw [if_neg hx] at hl; exact h2 x hl
theorem H7.DB {E E' : AZ} {b : Nat} {c c' : Array Value} {t : TypeId} {Ad : Bp} (h : H7 E E' b c c' t Ad) {base nb d : Nat} (hnb : nb ≤ E.n) (hd : d ≤ E.m) (hf : D4 E base nb d) (hh : CJ E)
  (hn : ∀ sz cs, Ad = .cells sz cs → b < base → ∀ (i : Nat) v u, cs[i]? = some v → c'[i]? = some u → AA (E.shrink nb d) v u) : D4 E' base nb d := by
 intro x sz cs hlt hB c2 t2 hc i v u hv hu
 rw [h.Bm] at hB
 rw [h.CI, h.CV] at hc
 by_cases hx : b = x
 ·subst hx
  rw [if_pos rfl] at hB hc
  simp only [Option.some.injEq, Obj.cells.injEq] at hB hc
  obtain ⟨rfl, _, _⟩ := hc
  exact (h.Ch.shrink hh hnb hd).rep v u (hn sz cs hB hlt i v u hv hu)
 ·rw [if_neg hx] at hB
  have hne : E.φ x ≠ E.φ b := fun e => hx (hh.inj b x (by rcases h.kind with ⟨_, _, _, hb, _⟩ | ⟨_, _, _, _, hb, _⟩ <;> (rw [hb]; trivial)) (by rw [hB]; trivial) e.symm)
  rw [if_neg hne] at hc
  exact (h.Ch.shrink hh hnb hd).rep v u (hf x sz cs hlt hB c2 t2 hc i v u hv hu)
structure Ix (E E' : AZ) (b l k k' sz : Nat) (c : Array Value) (t : TypeId) : Prop where
 heap : E'.w.heap = E.w.heap.push (.cells c t (0, 0))
 os : E'.w.os = E.w.os
 tape : E'.w.tape = E.w.tape
 output : E'.w.output = E.w.output
 CI : ∀ x, E'.φ x = if x = b then E.w.heap.size else E.φ x
 H : E'.H = E.H.set b (.Br l k' sz)
 lk : E'.lk = E.lk
 n : E'.n = E.n
 m : E'.m = E.m
 Bb : E'.Bb = E.Bb
 V7 : E.H[b]? = some (.Br l k sz)
 lt : k < k'
 size : k' * sz ≤ c.size
theorem Ix.Bm {E E' : AZ} {b l n n' sz : Nat} {c : Array Value} {t : TypeId} (h : Ix E E' b l n n' sz c t) (x : Nat) : E'.H[x]? = if b = x then some (.Br l n' sz) else E.H[x]? := by
 have hl : b < E.H.length := by
  rcases Nat.lt_or_ge b E.H.length with hl | hl
  ·exact hl
  ·have := h.V7; rw [List.getElem?_eq_none hl] at this; cases this
 rw [h.H, Ae]
 simp [hl]
theorem Ix.CV {E E' : AZ} {b l n n' sz : Nat} {c : Array Value} {t : TypeId} (h : Ix E E' b l n n' sz c t) (g : Nat) : E'.w.heap[g]? = if g = E.w.heap.size then some (.cells c t (0, 0)) else E.w.heap[g]? := by
 rw [h.heap, Array.getElem?_push]
theorem Ix.Ch {E E' : AZ} {b l n n' sz : Nat} {c : Array Value} {t : TypeId} (h : Ix E E' b l n n' sz c t) : Fq E E' where
 lk := h.lk
 os := h.os
 tape := h.tape
 output := h.output
 size := by rw [h.heap]; simp
 len := by rw [h.n]; exact Nat.le_refl _
 mm := h.m
 cell := by
  intro g i u hc _
  have hg := GM hc
  simp only [World.cell?, h.CV g] at hc ⊢
  rw [if_neg (by simp at hg; omega)]
  exact hc
 block := by
  intro g hg _
  rw [h.CV g, if_neg (by omega)]
 mono := by
  intro lv g i _ hu
  rcases hu with hu | hu
  ·exact .inl (.inl (by rw [h.Bb] at hu; exact hu))
  cases lv with
  | some lv =>
   obtain ⟨x, h1, h2, h3⟩ := hu
   rw [h.lk] at h2
   rw [h.Bm x] at h3
   rw [h.CI x] at h1
   by_cases hb : x = b
   ·rw [if_pos hb] at h1; right; omega
   ·rw [if_neg hb] at h1
    rw [if_neg (fun e => hb e.symm)] at h3
    exact .inl (.inr ⟨x, h1, h2, h3⟩)
  | none =>
   obtain ⟨x, h1, h3⟩ := hu
   rw [h.Bm x] at h3
   rw [h.CI x] at h1
   by_cases hb : x = b
   ·rw [if_pos hb] at h1; right; omega
   ·rw [if_neg hb] at h1
    rw [if_neg (fun e => hb e.symm)] at h3
    exact .inl (.inr ⟨x, h1, h3⟩)
 CI := by
  intro x hx hn
  have hne : x ≠ b := fun e => hn l n sz (by rw [e]; exact h.V7)
  refine ⟨by rw [h.CI x, if_neg hne], fun q k z => ?_⟩
  rw [h.Bm x, if_neg (fun e => hne e.symm)]
  exact hn q k z
 cells := by
  intro x hx hn z cs
  rw [h.Bm x]
  split
  ·simp
  ·exact hn z cs
 Br := by
  intro x q k z hx hB
  rw [h.Bm x] at hB
  by_cases hb : b = x
  ·subst hb
   rw [if_pos rfl] at hB
   simp only [Option.some.injEq, Bp.Br.injEq] at hB
   obtain ⟨rfl, rfl, rfl⟩ := hB
   exact ⟨n, h.V7, Nat.le_of_lt h.lt, fun e => absurd e (Nat.ne_of_lt h.lt)⟩
  ·rw [if_neg hb] at hB
   refine ⟨k, hB, Nat.le_refl _, fun _ => ⟨by rw [h.CI x, if_neg (fun e => hb e.symm)], fun c' t' hc => ⟨c', ?_, rfl⟩⟩⟩
   rw [h.CV]
   split
   ·rename_i he
    have := Array.getElem?_eq_some_iff.1 hc |>.1
    omega
   ·exact hc
 fresh := by
  intro x hl
  rw [h.Bm x] at hl
  rw [h.CI x]
  by_cases hb : x = b
  ·rw [if_pos hb]; exact .inr (Nat.le_refl _)
  ·rw [if_neg (fun e => hb e.symm)] at hl
   rw [if_neg hb]; exact .inl ⟨rfl, hl⟩
 Bb := fun g hg => by rw [h.Bb]; exact hg
 Hr := fun g hg => .inl (by rw [h.Bb] at hg; exact hg)
 H5 := fun g _ hl => by rw [h.CV g, if_neg (by omega)]
theorem Ix.rel {E E' : AZ} {b l n n' sz : Nat} {c : Array Value} {t : TypeId} (h : Ix E E' b l n n' sz c t) (hh : CJ E) : CJ E' where
 cells := by
  intro x z cs hB
  rw [h.Bm x] at hB
  by_cases hb : b = x
  ·rw [if_pos hb] at hB; cases hB
  ·rw [if_neg hb] at hB
   obtain ⟨c', t', h1, h2, h3⟩ := hh.cells x z cs hB
   rw [h.CI x, if_neg (fun e => hb e.symm), h.CV, if_neg (by have := Array.getElem?_eq_some_iff.1 h1 |>.1; omega)]
   exact ⟨c', t', h1, h2, fun i v hv => let ⟨u, h4, h5⟩ := h3 i v hv; ⟨u, h4, h.Ch.rep hh v u h5⟩⟩
 dm := by rw [h.m, h.lk]; exact hh.dm
 lvl := by
  intro x q k z hB
  rw [h.Bm x] at hB
  rw [h.lk]
  by_cases hb : b = x
  ·subst hb
   rw [if_pos rfl] at hB
   simp only [Option.some.injEq, Bp.Br.injEq] at hB
   obtain ⟨rfl, rfl, rfl⟩ := hB
   exact hh.lvl _ _ _ _ h.V7
  ·rw [if_neg hb] at hB
   exact hh.lvl x q k z hB
 Br := by
  intro x q k z hB
  rw [h.Bm x] at hB
  by_cases hb : b = x
  ·subst hb
   rw [if_pos rfl] at hB
   simp only [Option.some.injEq, Bp.Br.injEq] at hB
   obtain ⟨rfl, rfl, rfl⟩ := hB
   rw [h.CI, if_pos rfl, h.CV, if_pos rfl]
   exact ⟨c, t, rfl, h.size⟩
  ·rw [if_neg hb] at hB
   obtain ⟨c', t', h1, h2⟩ := hh.Br x q k z hB
   rw [h.CI x, if_neg (fun e => hb e.symm), h.CV, if_neg (by have := Array.getElem?_eq_some_iff.1 h1 |>.1; omega)]
   exact ⟨c', t', h1, h2⟩
 maps := by
  intro x BJ hB
  rw [h.Bm x] at hB
  by_cases hb : b = x
  ·rw [if_pos hb] at hB; cases hB
  ·rw [if_neg hb] at hB
   obtain ⟨h1, h2⟩ := hh.maps x BJ hB
   rw [h.CI x, if_neg (fun e => hb e.symm), h.CV, if_neg (by have := Array.getElem?_eq_some_iff.1 h1 |>.1; omega)]
   exact ⟨h1, h2⟩
 inj := by
  intro x y h1 h2 he
  rw [h.Bm] at h1 h2
  rw [h.CI, h.CI] at he
  by_cases hx : x = b <;> by_cases hy : y = b
  ·omega
  ·rw [if_pos hx, if_neg hy] at he
   rw [if_neg (fun e => hy e.symm)] at h2
   have := Ek hh h2
   omega
  ·rw [if_neg hx, if_pos hy] at he
   rw [if_neg (fun e => hx e.symm)] at h1
   have := Ek hh h1
   omega
  ·rw [if_neg hx, if_neg hy] at he
   rw [if_neg (fun e => hx e.symm)] at h1
   rw [if_neg (fun e => hy e.symm)] at h2
   exact hh.inj x y h1 h2 he
 Bb := fun g hg => by
  rw [h.Bb] at hg
  obtain ⟨h1, h2⟩ := hh.Bb g hg
  refine ⟨by rw [h.heap, Array.size_push]; omega, fun x hl => ?_⟩
  rw [h.Bm] at hl
  rw [h.CI]
  by_cases hx : x = b
  ·rw [if_pos hx]; omega
  ·rw [if_neg (fun e => hx e.symm)] at hl; rw [if_neg hx]; exact h2 x hl
theorem Ix.DB {E E' : AZ} {b l n n' sz : Nat} {c : Array Value} {t : TypeId} (h : Ix E E' b l n n' sz c t) {base nb d : Nat} (hnb : nb ≤ E.n) (hd : d ≤ E.m) (hf : D4 E base nb d) (hh : CJ E) : D4 E' base nb d := by
 intro x z cs hlt hB c' t' hc i v u hv hu
 rw [h.Bm] at hB
 by_cases hx : b = x
 ·rw [if_pos hx] at hB; cases hB
 ·rw [if_neg hx] at hB
  rw [h.CI, if_neg (fun e => hx e.symm), h.CV] at hc
  split at hc
  ·rename_i he
   have := Ek hh (b := x) (by rw [hB]; trivial)
   omega
  ·exact (h.Ch.shrink hh hnb hd).rep v u (hf x z cs hlt hB c' t' hc i v u hv hu)
structure B8 (c : Cx) (E E' : AZ) (H' : A3) : Prop where
 H : E'.H = H'
 n : E'.n = H'.length
 m : E'.m = E.m
 Ch : Fq E E'
 heap : CJ E'
 Hn : c.hints.grow c.fn = false → ∀ base nb d, base ≤ c.base → nb ≤ E.n → d ≤ E.m → D4 E base nb d → D4 E' base nb d
 IK : c.hints.grow c.fn = true → ∀ base d, base ≤ c.base → d ≤ E.m → D4 E base E.n d → D4 E' base E'.n d
 kept : ∀ b, b < c.base → AV c.lk b = false → H'[b]? = E.H[b]?
def Gc (c : Cx) (E : AZ) (a : Act) (o : Oper) (v : V) (H' : A3) : Prop :=
 ∃ E', B8 c E E' H' ∧ ((∃ u, (execOp a.eval o).run c.P E.w = .ok (.value u) E'.w ∧ AA E' v u) ∨ ((execOp a.eval o).run c.P E.w = .ok .skip E'.w ∧ AA E' v undef))
theorem B8.refl {c : Cx} {E : AZ} {S : St} {a : Act} (hs : Cc c E S a) : B8 c E E S.H where
 H := hs.H
 n := hs.n
 m := rfl
 Ch := Fq.refl E
 heap := hs.heap
 Hn := fun _ _ _ _ _ _ _ h => h
 IK := fun _ _ _ _ _ h => h
 kept := fun _ _ _ => by rw [hs.H]
theorem DG.makes {c : Cx} {E : AZ} {S : St} {a : Act} {o : Oper} {v : V} (h : DG c E a o v) (hs : Cc c E S a) : Gc c E a o v S.H :=
 let ⟨u, h1, h2⟩ := h
 ⟨E, B8.refl hs, .inl ⟨u, h1, h2⟩⟩
def AZ.push (E : AZ) (w : World) (Ad : Bp) : AZ :=
  { w := w, φ := fun b => if b = E.H.length then E.w.heap.size else E.φ b, H := E.H ++ [Ad], lk := E.lk, n := E.n + 1, m := E.m, Bb := E.Bb }
theorem AZ.Ry (E : AZ) (w : World) (Ad : Bp) {c : Array Value} {t : TypeId} (h1 : w.heap = E.w.heap.push (.cells c t (0, 0))) (h2 : w.os = E.w.os) (h3 : w.tape = E.w.tape) (h4 : w.output = E.w.output) (h5 : E.n = E.H.length) : Fc E (E.push w Ad) c t Ad where
 heap := h1
 os := h2
 tape := h3
 output := h4
 CI := fun _ => rfl
 H := rfl
 lk := rfl
 n := rfl
 m := rfl
 Bb := rfl
 n0 := h5
section
variable {c : Cx} {E : AZ} {S : St} {a : Act} {o : Oper}
theorem Fc.after (hs : Cc c E S a) {E' : AZ} {cs : Array Value} {t : TypeId} {Ad : Bp} (h : Fc E E' cs t Ad) (hr : CJ E') : B8 c E E' (S.H ++ [Ad]) where
 H := by rw [h.H, hs.H]
 n := by rw [h.n, hs.n]; simp
 m := h.m
 Ch := h.Ch
 heap := hr
 Hn := fun _ base nb d hb hn hd hf => h.DB (by have := hs.base; have := hs.n; omega) hn hd hf hs.heap
 IK := fun _ base d hb hd hf => (h.DB (by have := hs.base; have := hs.n; omega) (Nat.le_refl _) hd hf hs.heap).up h.Ch.len
 kept := fun b hb _ => by rw [hs.H, List.getElem?_append_left (by have := hs.base; omega)]
theorem IM {P : Program} {t : TypeId} {n : Nat} (h : B3 P t = some n) : ∃ i, P.info? t = some i ∧ i.size = n := by
 unfold B3 at h
 simpa only [Option.map_eq_some_iff] using h
theorem Ij {P : Program} {t : TypeId} {z : List V} (h : BI P t = some z) : ∃ i x v, P.info? t = some i ∧ i.zero = some x ∧ E8 x = some v ∧ z = v.cellsOf := by
 unfold BI at h
 simp only [Option.bind_eq_some_iff, Option.map_eq_some_iff] at h
 obtain ⟨x, ⟨i, h1, h2⟩, v, h3, rfl⟩ := h
 exact ⟨i, x, v, h1, h2, h3, rfl⟩
theorem PL {x : Value} {v : V} (h : DP x = some v) : (∀ vs, v ≠ .FH vs) ∧ ∀ vs, v ≠ .agg vs := by
 cases x with
 | int _ _ => simp only [DP, Option.some.injEq] at h; subst h; simp
 | bool _ => simp only [DP, Option.some.injEq] at h; subst h; simp
 | string _ => simp only [DP, Option.some.injEq] at h; subst h; simp
 | pointer p => cases p <;> simp only [DP, Option.some.injEq, reduceCtorEq] at h; subst h; simp
 | slice p n m => simp only [DP] at h; split at h <;> simp_all <;> (subst h; simp)
 | nilFunc => simp only [DP, Option.some.injEq] at h; subst h; simp
 | _ => simp [DP] at h
theorem N0 {x : Value} {v : V} (h : E8 x = some v) : ∀ vs, v ≠ .FH vs := by
 cases x with
 | agg cs => simp only [E8, Option.map_eq_some_iff] at h; obtain ⟨_, _, rfl⟩ := h; simp
 | _ => exact (PL (by simpa only [E8] using h)).1
theorem GB (E : AZ) {x : Value} {v : V} (h : E8 x = some v) : AP E v.cellsOf x.cells.toList := Hw (HO E x v h) (N0 h)
theorem Sz (hs : Cc c E S a) {t : TypeId} {z : List V} {sz : Nat} (ho : o.op = .alloc t) (hz : BI c.P t = some z) : Gc c E a o (.ptr S.H.length 0) (S.H ++ [.cells sz z]) := by
 obtain ⟨i, x, v, h1, h2, h3, rfl⟩ := Ij hz
 have hp := AZ.Ry E (E.w.alloc (.cells x.cells t)) (.cells sz v.cellsOf) (c := x.cells) (t := t) rfl rfl rfl rfl (by rw [hs.n, hs.H])
 obtain ⟨hl, hg⟩ := BP _ _ (GB E h3)
 have hr := hp.rel hs.heap (fun sz' cs e => by
  simp only [Bp.cells.injEq] at e
  obtain ⟨rfl, rfl⟩ := e
  exact ⟨by rw [hl]; simp, fun i v hv => by simpa using hg i v hv⟩) (fun l n sz e => by cases e)
 refine ⟨_, hp.after hs hr, .inl ⟨.pointer (some ⟨E.w.heap.size, 0, none⟩), ?_, ?_⟩⟩
 ·simp [execOp, ho, Instr.alloc, zeroValue, typeInfo, h1, h2, newVar, newRow]; rfl
 ·simp only [AA]
  rw [hp.n, hs.n, hp.CI, hs.H]
  refine ⟨by omega, by rw [if_pos rfl], fun l n z => ?_⟩
  rw [hp.Bm, hs.H, if_pos rfl]
  simp
theorem WX (hs : Cc c E S a) {t : TypeId} {x : Operand} {v : V} {sz : Nat} (ho : o.op = .box t x) (hx : ev S.T x = some v) (hc : v.cellsOf.all V.Bh = true) : Gc c E a o (.ptr S.H.length 0) (S.H ++ [.cells sz v.cellsOf]) := by
 have hrv := B5 hs x v hx
 have ht : ∀ vs, v ≠ .FH vs := by rintro vs rfl; simp [V.cellsOf, V.Bh] at hc
 have hp := AZ.Ry E (E.w.alloc (.cells (a.eval x).cells t)) (.cells sz v.cellsOf) (c := (a.eval x).cells) (t := t) rfl rfl rfl rfl (by rw [hs.n, hs.H])
 obtain ⟨hl, hg⟩ := BP _ _ (Hw hrv ht)
 have hr := hp.rel hs.heap (fun sz' cs e => by
  simp only [Bp.cells.injEq] at e
  obtain ⟨rfl, rfl⟩ := e
  exact ⟨by rw [hl]; simp, fun i v hv => by simpa using hg i v hv⟩) (fun l n sz e => by cases e)
 refine ⟨_, hp.after hs hr, .inl ⟨.pointer (some ⟨E.w.heap.size, 0, none⟩), ?_, ?_⟩⟩
 ·simp [execOp, ho, Instr.box, newVar, newRow]; rfl
 ·simp only [AA]
  rw [hp.n, hs.n, hp.CI, hs.H]
  refine ⟨by omega, by rw [if_pos rfl], fun l n z => ?_⟩
  rw [hp.Bm, hs.H, if_pos rfl]
  simp
theorem KV (cs xs : List V) (off : Nat) (h : off + xs.length ≤ cs.length) (i : Nat) : (Bj cs off xs)[i]? = if off ≤ i ∧ i < off + xs.length then xs[i - off]? else cs[i]? := by
 unfold Bj
 rcases Nat.lt_or_ge i off with hi | hi
 ·rw [if_neg (by omega), List.append_assoc, List.getElem?_append_left (by simp; omega), List.getElem?_take_of_lt hi]
 ·rcases Nat.lt_or_ge i (off + xs.length) with hj | hj
  ·rw [if_pos ⟨hi, hj⟩, List.append_assoc, List.getElem?_append_right (by simp; omega), List.getElem?_append_left (by simp; omega)]
   congr 1
   simp; omega
  ·rw [if_neg (by omega), List.getElem?_append_right (by simp; omega), List.getElem?_drop]
   congr 1
   simp; omega
theorem HX (cs xs : List V) (off : Nat) (h : off + xs.length ≤ cs.length) : (Bj cs off xs).length = cs.length := by
 unfold Bj; simp; omega
theorem He {c : Cx} (hl : ∀ l ∈ c.lk, ∀ x ∈ l, x < c.base) {b : Nat} (h : c.BR b = true) : AV c.lk b = true := by
 unfold Cx.BR at h
 simp only [Bool.or_eq_true, decide_eq_true_eq] at h
 rcases h with h | h
 ·unfold AV
  rw [List.all_eq_true]
  intro l hx
  simp only [Bool.not_eq_true', List.contains_eq_mem, decide_eq_false_iff_not]
  intro hm
  have := hl l hx b hm
  omega
 ·exact h
theorem Iy (c : Array Value) (us : List Value) (off : Nat) (h : off + us.length ≤ c.size) (i : Nat) :
  (c.toList.take off ++ us ++ c.toList.drop (off + us.length)).toArray[i]? = if off ≤ i ∧ i < off + us.length then us[i - off]? else c[i]? := by
 rw [List.getElem?_toArray]
 rcases Nat.lt_or_ge i off with hi | hi
 ·rw [if_neg (by omega), List.append_assoc, List.getElem?_append_left (by simp; omega), List.getElem?_take_of_lt hi, Array.getElem?_toList]
 ·rcases Nat.lt_or_ge i (off + us.length) with hj | hj
  ·rw [if_pos ⟨hi, hj⟩, List.append_assoc, List.getElem?_append_right (by simp; omega), List.getElem?_append_left (by simp; omega)]
   congr 1
   simp; omega
  ·rw [if_neg (by omega), List.getElem?_append_right (by simp; omega), List.getElem?_drop, Array.getElem?_toList]
   congr 1
   simp; omega
def AZ.write (E : AZ) (b : Nat) (c' : Array Value) (Ad : Bp) : AZ := { E with w := E.w.setRow (E.φ b) c', H := E.H.set b Ad }
theorem B8.trans {E' : AZ} {H' : A3} {E'' : AZ} {H'' : A3} (h : B8 c E E' H') (k : B8 c E' E'' H'') : B8 c E E'' H'' where
 H := k.H
 n := k.n
 m := k.m.trans h.m
 Ch := h.Ch.trans k.Ch
 heap := k.heap
 Hn := fun hg base nb d hb hn hd hf => k.Hn hg base nb d hb (Nat.le_trans hn h.Ch.len) (by rw [h.m]; exact hd) (h.Hn hg base nb d hb hn hd hf)
 IK := fun hg base d hb hd hf => k.IK hg base d hb (by rw [h.m]; exact hd) (h.IK hg base d hb hd hf)
 kept := fun b hb hl => (k.kept b hb hl).trans (by rw [h.H]; exact h.kept b hb hl)
theorem JE {lo : Nat} {f : A3 → V → Option (V × A3)} (hf : ∀ H v v' H', f H v = some (v', H') → ∀ b : Nat, b < lo → H'[b]? = H[b]?) :
  ∀ (vs : List V) (H : A3) (vs' : List V) (H' : A3), B4.giveL f H vs = some (vs', H') → ∀ b : Nat, b < lo → H'[b]? = H[b]?
 | [], H, vs', H', h, b, hb => by
  simp only [B4.giveL, Option.some.injEq, Prod.mk.injEq] at h
  obtain ⟨_, rfl⟩ := h
  rfl
 | v :: vs, H, vs', H', h, b, hb => by
  simp only [B4.giveL, Option.bind_eq_some_iff, Option.map_eq_some_iff, Prod.exists, Prod.mk.injEq] at h
  obtain ⟨v1, H1, h1, vs2, H2, h2, _, rfl⟩ := h
  exact (JE hf vs H1 vs2 H2 h2 b hb).trans (hf H v v1 H1 h1 b hb)
theorem Jl (lo : Nat) : ∀ (k : Nat) (H : A3) (v v' : V) (H' : A3), B4 lo k H v = some (v', H') → ∀ b : Nat, b < lo → H'[b]? = H[b]?
 | 0, H, v, v', H', h => by simp [B4] at h
 | k + 1, H, v, v', H', h => by
  have same : (v', H') = (v, H) → ∀ b : Nat, b < lo → H'[b]? = H[b]? := by
   intro e
   simp only [Prod.mk.injEq] at e
   obtain ⟨_, rfl⟩ := e
   exact fun _ _ => rfl
  have ih := JE (lo := lo) fun (H : A3) (v v' : V) (H' : A3) (h : B4 lo k H v = some (v', H')) => Jl lo k H v v' H' h
  have kill : ∀ (x b : Nat), ¬ x < lo → b < lo → (H.set x .dead)[b]? = H[b]? := by
   intro x b h1 h2
   rw [Ae, if_neg (by omega)]
  cases v with
  | int _ _ => simp only [B4, Option.some.injEq] at h; exact same h.symm
  | bool _ => simp only [B4, Option.some.injEq] at h; exact same h.symm
  | str _ => simp only [B4, Option.some.injEq] at h; exact same h.symm
  | HW => simp only [B4, Option.some.injEq] at h; exact same h.symm
  | Eg => simp only [B4, Option.some.injEq] at h; exact same h.symm
  | ptr _ _ => simp [B4] at h
  | FF _ => simp [B4] at h
  | lp _ _ _ => simp [B4] at h
  | fn _ _ => simp [B4] at h
  | FH _ => simp [B4] at h
  | lit lv n cs =>
   simp only [B4] at h
   split at h
   ·simp only [Option.some.injEq] at h; exact same h.symm
   ·cases h
  | tl n cs =>
   simp only [B4, Option.map_eq_some_iff, Prod.exists, Prod.mk.injEq] at h
   obtain ⟨cs', H1, h1, _, rfl⟩ := h
   exact ih cs H cs' H1 h1
  | snap x n cs =>
   simp only [B4] at h
   split at h
   case h_2 => cases h
   split at h
   ·cases h
   rename_i hx
   simp only [Option.map_eq_some_iff, Prod.exists, Prod.mk.injEq] at h
   obtain ⟨cs', H1, h1, _, rfl⟩ := h
   exact fun b hb => (ih cs _ cs' H1 h1 b hb).trans (kill x b (fun h => hx (.inl h)) hb)
  | sl x off n =>
   simp only [B4] at h
   split at h
   case h_2 => cases h
   split at h
   ·cases h
   rename_i hx
   simp only [Option.map_eq_some_iff, Prod.exists, Prod.mk.injEq] at h
   obtain ⟨cs', H1, h1, _, rfl⟩ := h
   exact fun b hb => (ih _ _ cs' H1 h1 b hb).trans (kill x b (fun h => hx (.inl h)) hb)
  | agg cs =>
   simp only [B4, Option.map_eq_some_iff, Prod.exists, Prod.mk.injEq] at h
   obtain ⟨cs', H1, h1, _, rfl⟩ := h
   exact ih cs H cs' H1 h1
theorem UE (hs : Cc c E S a) {k : Nat} {v v' : V} {H' : A3} (h : B4 c.base k S.H v = some (v', H')) : B8 c E (E.heap H') H' ∧ (∀ u, AA E v u → AA ((E.heap H').shrink 0 0) v' u) ∧ H'.length = S.H.length := by
 have hg := IL c.base k E v v' H' (by rw [hs.H]; exact h) hs.heap
 obtain ⟨e, r, p⟩ := hg
 have hlen := HI c.base k S.H v v' H' h
 have hrf : ∀ base nb d, nb ≤ E.n → d ≤ E.m → D4 E base nb d → D4 (E.heap H') base nb d := by
  intro base nb d hnb hd hf b sz cs hlt hB c' t hc i x u hv hu
  have hsame := Om c.base k S.H v v' H' h b sz cs hB
  rw [← hs.H] at hsame
  exact (e.shrink hs.heap hnb hd).rep x u (hf b sz cs hlt hsame c' t hc i x u hv hu)
 refine ⟨⟨rfl, ?_, rfl, e, r, fun _ base nb d _ hn hd hf => hrf base nb d hn hd hf, fun _ base d _ hd hf => hrf base E.n d (Nat.le_refl _) hd hf, fun b hb _ => by rw [Jl c.base k S.H v v' H' h b hb, hs.H]⟩, p, hlen⟩
 show E.n = _; rw [hs.n, hlen]
theorem TY {E : AZ} {b sz : Nat} {cs : List V} {c0 : Array Value} {t : TypeId} (cs' : List V) (c' : Array Value) (hrow : E.w.heap[E.φ b]? = some (.cells c0 t (0, 0))) (hsz : c'.size = c0.size) (hn : E.n = E.H.length)
  (hfree : AV E.lk b = true) (hb : E.H[b]? = some (.cells sz cs)) (hnh : E.φ b ∉ E.Bb) : H7 E (E.write b c' (.cells sz cs')) b c0 c' t (.cells sz cs') where
 w := rfl
 row := hrow
 size := hsz
 CI := rfl
 H := rfl
 lk := rfl
 n := rfl
 m := rfl
 Bb := rfl
 Mo := hnh
 n0 := hn
 free := hfree
 kind := .inl ⟨sz, cs, cs', hb, rfl⟩
theorem KW (hs : Cc c E S a) {E1 : AZ} {H1 : A3} (ha : B8 c E E1 H1) (hw1 : E1.w = E.w) {t : TypeId} {p x : Operand} {b off sz : Nat} {cs : List V} {x' : V} (ho : o.op = .store t p x)
  (hp : AA E1 (.ptr b off) (a.eval p)) (hx : AA E1 x' (a.eval x)) (hf : b < c.base → AA (E1.shrink (if c.hints.grow c.fn = true then E1.n else 0) 0) x' (a.eval x)) (hfree : AV E1.lk b = true) (hb : H1[b]? = some (.cells sz cs))
  (hsz : B3 c.P t = some x'.cellsOf.length) (hfit : off + x'.cellsOf.length ≤ cs.length) (hcell : x'.cellsOf.all V.Bh = true) : Gc c E a o Ca (H1.set b (.cells sz (Bj cs off x'.cellsOf))) := by
 have hb' : E1.H[b]? = some (.cells sz cs) := by rw [ha.H]; exact hb
 obtain ⟨c0, ty, q1, q2, q3⟩ := ha.heap.cells b sz cs hb'
 have ht : ∀ vs, x' ≠ .FH vs := by rintro vs rfl; simp [V.cellsOf, V.Bh] at hcell
 have hvs := Hw hx ht
 obtain ⟨hl, hg⟩ := BP _ _ hvs
 simp only [AA] at hp
 obtain ⟨_, hp, _⟩ := hp
 have hone : ∀ v ∈ (a.eval x).cells.toList, v.oneCell' = true := by
  intro v hv
  obtain ⟨i, hi⟩ := List.getElem?_of_mem hv
  have hil : i < x'.cellsOf.length := by
   rw [hl]
   exact (List.getElem?_eq_some_iff.1 hi).1
  obtain ⟨u, h1, h2⟩ := hg i _ (List.getElem?_eq_getElem hil)
  rw [hi] at h1
  simp only [Option.some.injEq] at h1
  subst h1
  rw [List.all_eq_true] at hcell
  exact Ms h2 (hcell _ (List.getElem_mem hil))
 have hrun := run_storeCells_at c.P (E1.φ b) off ty (a.eval x).cells.toList 0 c0 E.w (by rw [← hw1]; exact q1) (by rw [← hl]; omega) hone
 simp only [Nat.add_zero] at hrun
 have hsize : (a.eval x).cells.size = x'.cellsOf.length := by rw [hl]; simp
 let c' : Array Value := (c0.toList.take off ++ (a.eval x).cells.toList ++ c0.toList.drop (off + (a.eval x).cells.toList.length)).toArray
 have hc'size : c'.size = c0.size := by
  have : off + (a.eval x).cells.toList.length ≤ c0.size := by rw [← hl]; omega
  simp only [c', List.size_toArray, List.length_append, List.length_take, List.length_drop, Array.length_toList] at *
  omega
 have hc'get : ∀ i, c'[i]? = if off ≤ i ∧ i < off + (a.eval x).cells.toList.length then (a.eval x).cells.toList[i - off]? else c0[i]? := fun i => Iy c0 _ off (by rw [← hl]; omega) i
 have hwr := TY (Bj cs off x'.cellsOf) c' q1 hc'size (by rw [ha.n, ha.H]) hfree hb' (fun e => (ha.heap.Bb _ e).2 b (by rw [hb']; trivial) rfl)
 have hnew : ∀ (i : Nat) v, (Bj cs off x'.cellsOf)[i]? = some v → ∃ u, c'[i]? = some u ∧ AA E1 v u := by
  intro i v hv
  rw [KV cs _ off hfit] at hv
  rw [hc'get, ← hl]
  by_cases hc : off ≤ i ∧ i < off + x'.cellsOf.length
  ·rw [if_pos hc] at hv ⊢
   exact hg _ v hv
  ·rw [if_neg hc] at hv ⊢
   exact q3 i v hv
 have hr := hwr.rel ha.heap (fun sz' cs' e => by
  simp only [Bp.cells.injEq] at e
  obtain ⟨_, rfl⟩ := e
  exact ⟨by rw [HX cs _ off hfit, hc'size]; exact q2, hnew⟩) (fun l n sz e => by cases e)
 have hfor : ∀ base nb d, base ≤ c.base → nb ≤ E1.n → (c.hints.grow c.fn = true → nb = E1.n) → d ≤ E1.m → D4 E1 base nb d → D4 (E1.write b c' (.cells sz (Bj cs off x'.cellsOf))) base nb d := by
  intro base nb d hbase hnb hgr hd hf1
  refine hwr.DB hnb hd hf1 ha.heap (fun sz' cs' e hlt i v u hv hu => ?_)
  simp only [Bp.cells.injEq] at e
  obtain ⟨_, rfl⟩ := e
  rw [KV cs _ off hfit] at hv
  rw [hc'get, ← hl] at hu
  by_cases hc : off ≤ i ∧ i < off + x'.cellsOf.length
  ·rw [if_pos hc] at hv hu
   obtain ⟨_, hg'⟩ := BP _ _ (Hw (hf (Nat.lt_of_lt_of_le hlt hbase)) ht)
   obtain ⟨u', h1, h2⟩ := hg' _ v hv
   rw [hu] at h1
   simp only [Option.some.injEq] at h1
   subst h1
   refine (CX.grow (E1.shrink nb d) (n := _) (m := 0) ?_ (Nat.zero_le _)).rep _ _ h2
   show (if c.hints.grow c.fn = true then E1.n else 0) ≤ nb
   split
   ·rename_i hgt; rw [hgr hgt]; exact Nat.le_refl _
   ·exact Nat.zero_le _
  ·rw [if_neg hc] at hv hu
   exact hf1 b sz cs hlt hb' c0 ty q1 i v u hv hu
 refine ⟨E1.write b c' (.cells sz (Bj cs off x'.cellsOf)), ⟨?_, ?_, ha.m, ha.Ch.trans hwr.Ch, hr,
  fun hg base nb d hb0 hn hd hf0 => hfor base nb d hb0 (Nat.le_trans hn ha.Ch.len) (fun h => by rw [hg] at h; cases h) (by rw [ha.m]; exact hd) (ha.Hn hg base nb d hb0 hn hd hf0),
  fun hg base d hb0 hd hf0 => hfor base _ d hb0 (Nat.le_refl _) (fun _ => rfl) (by rw [ha.m]; exact hd) (ha.IK hg base d hb0 hd hf0),
  fun b' hb0 hl0 => ?_⟩, .inr ⟨?_, ?_⟩⟩
 ·show E1.H.set b _ = _; rw [ha.H]
 ·show E1.n = _; rw [ha.n]; simp
 ·rw [Ae, if_neg, ha.kept b' hb0 hl0]
  rintro ⟨rfl, _⟩
  rw [ha.Ch.lk, hs.lk] at hfree
  rw [hfree] at hl0
  cases hl0
 ·simp only [execOp, ho, hp, Instr.storeAt, Instr.sureAddr, storeVar, Sem.run_bind, Sem.run_pure, Result.andThen_ok, EM hsz, hsize, ne_eq, not_true_eq_false, if_false, hrun]
  show Result.ok Next.skip (E.w.setRow (E1.φ b) c') = Result.ok Next.skip (E1.w.setRow (E1.φ b) c')
  rw [hw1]
 ·simp only [Ca, AA]
  exact ⟨#[], rfl, by simp only [AP]⟩
theorem T4 (hs : Cc c E S a) {t : TypeId} {p x : Operand} {P X : V} {H' : A3} (ho : o.op = .store t p x) (hp : ev S.T p = some P) (hx : ev S.T x = some X) (h : Gw c t S.H P X = some H') : Gc c E a o Ca H' := by
 have hrp := B5 hs p _ hp
 have hrx := B5 hs x _ hx
 cases P with
 | ptr b off =>
  simp only [Gw] at h
  split at h
  case isFalse => cases h
  rename_i hmw
  have hfree := He hs.Dk hmw
  simp only [Option.bind_eq_some_iff, Prod.exists] at h
  obtain ⟨X1, H1, hX, h⟩ := h
  split at h
  case h_2 => cases h
  rename_i sz cs hb
  split at h
  case isFalse => cases h
  rename_i hcond
  simp only [Option.some.injEq] at h
  subst h
  obtain ⟨k1, k2, k3⟩ := hcond
  by_cases hlt : b < c.base
  ·rw [if_pos hlt] at hX
   split at hX
   ·rename_i hgrow
    split at hX
    case isFalse => cases hX
    rename_i hcl
    simp only [Option.some.injEq, Prod.mk.injEq] at hX
    obtain ⟨rfl, rfl⟩ := hX
    refine KW hs (B8.refl hs) rfl ho hrp hrx (fun _ => ?_) (by rw [hs.lk]; exact hfree) hb k1 k2 k3
    rw [if_pos hgrow]
    exact Gf (E := E) (d := 0) X _ hcl hrx
   ·rename_i hgrow
    obtain ⟨ha, hr, hlen⟩ := UE hs hX
    refine KW hs ha rfl ho (ha.Ch.rep hs.heap _ _ hrp) ?_ (fun _ => ?_) (by show AV E.lk b = true; rw [hs.lk]; exact hfree) hb k1 k2 k3
    ·exact (CX.grow (E.heap H1) (Nat.zero_le _) (Nat.zero_le _)).rep _ _ (hr _ hrx)
    ·rw [if_neg hgrow]
     exact hr _ hrx
  ·rw [if_neg hlt] at hX
   simp only [Option.some.injEq, Prod.mk.injEq] at hX
   obtain ⟨rfl, rfl⟩ := hX
   exact KW hs (B8.refl hs) rfl ho hrp hrx (fun h => absurd h hlt) (by rw [hs.lk]; exact hfree) hb k1 k2 k3
 | _ => simp [Gw] at h
theorem Ux {E : AZ} {cs xs : List V} {arr : Array Value} {us : List Value} {off : Nat} (hc : AP E cs arr.toList) (hx : AP E xs us) (hfit : off + xs.length ≤ cs.length) {arr' : Array Value} (hsz : arr'.size = arr.size)
  (hg : ∀ k, arr'[k]? = if off ≤ k ∧ k < off + us.length then us[k - off]? else arr[k]?) : AP E (Bj cs off xs) arr'.toList := by
 obtain ⟨l1, g1⟩ := BP _ _ hc
 obtain ⟨l2, g2⟩ := BP _ _ hx
 refine Ds _ _ ?_ fun i v u hi hj => ?_
 ·rw [HX cs xs off hfit, l1]; simp [hsz]
 ·rw [KV cs xs off hfit] at hi
  rw [Array.getElem?_toList, hg, ← l2] at hj
  by_cases h : off ≤ i ∧ i < off + xs.length
  ·rw [if_pos h] at hi hj
   obtain ⟨u', h1, h2⟩ := g2 _ v hi
   rw [hj] at h1
   simp only [Option.some.injEq] at h1
   subst h1
   exact h2
  ·rw [if_neg h] at hi hj
   obtain ⟨u', h1, h2⟩ := g1 _ v hi
   rw [Array.getElem?_toList, hj] at h1
   simp only [Option.some.injEq] at h1
   subst h1
   exact h2
def Jv (E : AZ) : List (Nat × V) → List (Nat × Value) → Prop
 | [], us => us = []
 | (i, v) :: ps, us => ∃ u us', us = (i, u) :: us' ∧ AA E v u ∧ Jv E ps us'
theorem Fq.kU {E E' : AZ} (h : Fq E E') (hh : CJ E) : ∀ (ps : List (Nat × V)) (us : List (Nat × Value)), Jv E ps us → Jv E' ps us
 | [], _, r => r
 | (_, v) :: ps, _, r => by
  simp only [Jv] at r ⊢
  obtain ⟨u, us', h1, h2, h3⟩ := r
  exact ⟨u, us', h1, h.rep hh v u h2, h.kU hh ps us' h3⟩
theorem S5 (hs : Cc c E S a) : ∀ (xs : List (Nat × Operand)) (ps : List (Nat × V)), Qz S.T xs = some ps → Jv E ps (xs.map fun p => (p.1, a.eval p.2))
 | [], ps, h => by simp only [Qz, Option.some.injEq] at h; subst h; simp only [Jv, List.map_nil]
 | (i, x) :: xs, ps, h => by
  simp only [Qz, Option.bind_eq_some_iff, Option.map_eq_some_iff] at h
  obtain ⟨v, hv, ws, hw, rfl⟩ := h
  simp only [Jv, List.map_cons]
  exact ⟨_, _, rfl, B5 hs x v hv, S5 hs xs ws hw⟩
theorem KL {E : AZ} (place : Nat → Option (Nat × Nat)) : ∀ (ps : List (Nat × V)) (us : List (Nat × Value)) (cs : List V) (arr : Array Value) (cs' : List V),
  E5 place cs ps = some cs' → Jv E ps us → AP E cs arr.toList → ∃ arr', Instr.fill place arr us = some arr' ∧ AP E cs' arr'.toList
 | [], us, cs, arr, cs', h, hp, hc => by
  simp only [E5, Option.some.injEq] at h
  subst h
  simp only [Jv] at hp
  subst hp
  exact ⟨arr, rfl, hc⟩
 | (i, v) :: ps, us, cs, arr, cs', h, hp, hc => by
  simp only [Jv] at hp
  obtain ⟨u, us', rfl, hu, hus⟩ := hp
  simp only [E5] at h
  split at h
  ·cases h
  ·rename_i off sz hpl
   split at h
   ·cases h
   ·rename_i hcond
    simp only [not_or, Nat.not_lt, Decidable.not_not, Bool.not_eq_false] at hcond
    obtain ⟨h1, h2, h3⟩ := hcond
    have ht : ∀ vs, v ≠ .FH vs := by rintro vs rfl; simp [V.cellsOf, V.Bh] at h3
    have hvs := Hw hu ht
    obtain ⟨l1, _⟩ := BP _ _ hc
    obtain ⟨l2, _⟩ := BP _ _ hvs
    have hsz : u.cells.size = sz := by rw [← h1, l2]; simp
    have harr : arr.size = cs.length := by rw [l1]; simp
    have hfold := Go.Great.foldl_set off u.cells.toList 0 arr
    simp only [Nat.add_zero] at hfold
    obtain ⟨f1, f2⟩ := hfold
    have hstep : Instr.fill place arr ((i, u) :: us') = Instr.fill place ((u.cells.toList.zipIdx 0).foldl (fun cs (x : Value × Nat) => cs.setIfInBounds (off + x.2) x.1) arr) us' := by
     simp only [Instr.fill, hpl]
     rw [if_neg (by simp only [hsz, ne_eq, not_true_eq_false, decide_false, Bool.false_or, decide_eq_true_eq]; omega)]
     rw [← Array.foldl_toList, Array.toList_zipIdx]
    rw [hstep]
    refine KL place ps us' (Bj cs off v.cellsOf) _ cs' h hus (Ux hc hvs (by omega) f1 fun k => ?_)
    rw [f2 k]
    by_cases hk : off ≤ k ∧ k < off + u.cells.toList.length
    ·rw [if_pos hk, if_pos ⟨hk.1, hk.2, by rw [← l2] at hk; omega⟩]
    ·rw [if_neg hk, if_neg (fun e => hk ⟨e.1, e.2.1⟩)]
theorem K5 (place : Nat → Option (Nat × Nat)) : ∀ (ps : List (Nat × V)) (cs cs' : List V), E5 place cs ps = some cs' → cs'.length = cs.length
 | [], cs, cs', h => by simp only [E5, Option.some.injEq] at h; rw [h]
 | (i, v) :: ps, cs, cs', h => by
  simp only [E5] at h
  split at h
  ·cases h
  ·split at h
   ·cases h
   ·rename_i hcond
    simp only [not_or, Nat.not_lt, Decidable.not_not, Bool.not_eq_false] at hcond
    rw [K5 place ps _ cs' h, HX _ _ _ (by omega)]
theorem Sn (hs : Cc c E S a) {t : TypeId} {parts : Array (Nat × Operand)} {ps : List (Nat × V)} {z cs : List V} {pl : List (Nat × Nat)} (ho : o.op = .build t parts) (hp : Qz S.T parts.toList = some ps) (hz : BI c.P t = some z) (hpl : El c.P t = some pl)
  (h : E5 (fun i => pl[i]?) z ps = some cs) : DG c E a o (.agg cs) := by
 obtain ⟨i, x, v, h1, h2, h3, rfl⟩ := Ij hz
 obtain ⟨arr, k1, k2⟩ := KL _ ps _ _ x.cells cs h (S5 hs _ _ hp) (GB E h3)
 unfold El at hpl
 split at hpl
 case h_2 => cases hpl
 rename_i fs hu
 have hb : c.P.built t (parts.map fun (i, x) => (i, a.eval x)).toList = some arr := by
  simp only [Program.built, h1, hu, h2, hpl, Array.toList_map]
  simpa using k1
 refine ⟨.agg arr, by simp only [execOp, ho, run_build E.w t _ arr hb, Sem.run_bind, Result.andThen_ok, Sem.run_pure], ?_⟩
 simp only [AA]
 exact ⟨arr, rfl, k2⟩
theorem Mi {α : Type} (l : List α) : ∀ (n i : Nat), i < n * l.length → (List.replicate n l).flatten[i]? = l[i % l.length]?
 | 0, i, h => by omega
 | n + 1, i, h => by
  rw [List.replicate_succ, List.flatten_cons]
  rcases Nat.lt_or_ge i l.length with hi | hi
  ·rw [List.getElem?_append_left hi, Nat.mod_eq_of_lt hi]
  ·rw [List.getElem?_append_right hi, Mi l n (i - l.length) (by rw [Nat.add_mul, Nat.one_mul] at h; omega), Nat.mod_eq_sub_mod hi]
theorem JC {α : Type} (l : List α) (n : Nat) : (List.replicate n l).flatten.length = n * l.length := by
 induction n with
 | zero => simp
 | succ n ih => rw [List.replicate_succ, List.flatten_cons, List.length_append, ih, Nat.add_mul, Nat.one_mul, Nat.add_comm]
theorem PB {E : AZ} {z : List V} {x : Value} (hz : AP E z x.cells.toList) (hpos : z.length ≠ 0) (n : Nat) : AP E (List.replicate n z).flatten (madeCells x.cells (n * z.length)).toList := by
 obtain ⟨l, g⟩ := BP _ _ hz
 refine Ds _ _ (by rw [JC]; simp [size_madeCells]) fun i v u hi hj => ?_
 have hil : i < n * z.length := by
  rcases Nat.lt_or_ge i (n * z.length) with h | h
  ·exact h
  ·rw [List.getElem?_eq_none (by rw [JC]; exact h)] at hi; cases hi
 rw [Mi z n i hil] at hi
 obtain ⟨u', h1, h2⟩ := g _ v hi
 have hx : x.cells.size = z.length := by rw [l]; simp
 have hlt : i % z.length < x.cells.size := by rw [hx]; exact Nat.mod_lt _ (by omega)
 have : (madeCells x.cells (n * z.length))[i]? = some u' := by
  unfold madeCells
  rw [Array.getElem?_map, Array.getElem?_range]
  simp only [hil, if_true, Option.map_some, hx, Option.some.injEq]
  rw [getElem!_pos x.cells (i % z.length) hlt]
  rw [Array.getElem?_toList, Array.getElem?_eq_getElem hlt] at h1
  simpa using h1
 rw [Array.getElem?_toList, this] at hj
 simp only [Option.some.injEq] at hj
 subst hj
 exact h2
theorem Ua {E : AZ} {v : V} {u : Value} (h : AA E v u) : AA E (UZ v) u := by
 unfold UZ
 split
 ·simp only [AA] at h ⊢
  obtain ⟨A, h1, _⟩ := h
  exact ⟨Nat.zero_le _, A, 0, h1, Nat.le_refl _, .inl trivial⟩
 ·exact h
theorem Wa {E : AZ} (kp : Bool) {v : V} {u : Value} (h : AA E v u) : AA E (HK kp v) u := by
 unfold HK
 cases kp
 ·exact Ua h
 ·exact h
theorem JP {E : AZ} {kp : Bool} : ∀ {vs : List V} {us : List Value}, AP E vs us → AP E (vs.map (HK kp)) us
 | [], us, h => h
 | v :: vs, us, h => by
  simp only [AP, List.map_cons] at h ⊢
  obtain ⟨u, us', h1, h2, h3⟩ := h
  exact ⟨u, us', h1, Wa kp h2, JP h3⟩
theorem UW (hs : Cc c E S a) {t : TypeId} {n m : Operand} {N M v : V} {H' : A3} (ho : o.op = .makeSlice t n m) (hn : ev S.T n = some N) (hm : ev S.T m = some M) {kp : Bool} (h : JK c.P kp t S.H N M = some (v, H')) : Gc c E a o v H' := by
 have r1 := B5 hs n _ hn
 have r2 := B5 hs m _ hm
 unfold JK at h
 split at h
 case h_2 => cases h
 rename_i k l
 simp only [Option.bind_eq_some_iff] at h
 obtain ⟨e, he, sz, hsz, by_, hby, z, hz, h⟩ := h
 split at h
 case isFalse => cases h
 rename_i hc
 obtain ⟨rfl, h0, hb, hzl, hsz0⟩ := hc
 simp only [Option.some.injEq, Prod.mk.injEq] at h
 obtain ⟨rfl, rfl⟩ := h
 simp only [AA] at r1 r2
 obtain ⟨i, x, vv, h1, h2, h3, rfl⟩ := Ij hz
 obtain ⟨i', hi', hsize⟩ := IM hsz
 rw [h1] at hi'
 simp only [Option.some.injEq] at hi'
 subst hi'
 have hbytes : i.bytes = by_ := by unfold C3 at hby; rw [h1] at hby; simpa using hby
 subst hbytes hsize
 have hb2 : k * (i.bytes : Int) + k ≤ 70368744177664 := by rw [Int.mul_add, Int.mul_one] at hb; exact hb
 have hb3 : 0 ≤ k * (i.bytes : Int) := Int.mul_nonneg h0 (by omega)
 have hrun := run_make (P := c.P) E.w t e i x (CA he) h1 h2 .i64 .i64 k k h0 (Int.le_refl _) (by rw [Int.mul_comm]; omega) (by omega)
 have hp := AZ.Ry E (E.w.alloc (.cells (madeCells x.cells (k.toNat * i.size)) e)) (.cells i.size (List.replicate k.toNat (vv.cellsOf.map (HK kp))).flatten) (c := madeCells x.cells (k.toNat * i.size)) (t := e) rfl rfl rfl rfl (by rw [hs.n, hs.H])
 have hmr := PB (E := E) (JP (kp := kp) (GB E h3)) (by rw [List.length_map, hzl]; exact hsz0) k.toNat
 rw [List.length_map, hzl] at hmr
 obtain ⟨hl, hg⟩ := BP _ _ hmr
 have hr := hp.rel hs.heap (fun sz' cs e => by
  simp only [Bp.cells.injEq] at e
  obtain ⟨rfl, rfl⟩ := e
  exact ⟨by rw [hl]; simp, fun i v hv => by simpa using hg i v hv⟩) (fun l n sz e => by cases e)
 refine ⟨_, hp.after hs hr, .inl ⟨.slice (some ⟨E.w.heap.size, 0, none⟩) k.toNat k.toNat, ?_, ?_⟩⟩
 ·simp only [execOp, ho, r1, r2, hrun, Sem.run_bind, Result.andThen_ok, Sem.run_pure]; rfl
 ·simp only [AA]
  rw [hp.n, hs.n, hp.CI, hs.H]
  refine ⟨by omega, ⟨k.toNat, by rw [if_pos rfl], Nat.le_refl _⟩, fun l n z => ?_⟩
  rw [hp.Bm, hs.H, if_pos rfl]
  simp
end
structure Er (E E' : AZ) (c : Array Value) (t : TypeId) : Prop where
 heap : E'.w.heap = E.w.heap.push (.cells c t (0, 0))
 os : E'.w.os = E.w.os
 tape : E'.w.tape = E.w.tape
 output : E'.w.output = E.w.output
 CI : E'.φ = E.φ
 H : E'.H = E.H
 lk : E'.lk = E.lk
 nn : E'.n = E.n
 mm : E'.m = E.m
 Bb : ∀ g, g ∈ E'.Bb ↔ g ∈ E.Bb ∨ (g ∈ E'.Bb ∧ g = E.w.heap.size)
theorem Er.CV {E E' : AZ} {c : Array Value} {t : TypeId} (h : Er E E' c t) (g : Nat) : E'.w.heap[g]? = if g = E.w.heap.size then some (.cells c t (0, 0)) else E.w.heap[g]? := by
 rw [h.heap, Array.getElem?_push]
theorem Er.Ch {E E' : AZ} {c : Array Value} {t : TypeId} (h : Er E E' c t) : Fq E E' where
 lk := h.lk
 os := h.os
 tape := h.tape
 output := h.output
 size := by rw [h.heap]; simp
 len := by rw [h.nn]; exact Nat.le_refl _
 mm := h.mm
 cell := by
  intro g i u hc _
  have hg := GM hc
  simp only [World.cell?, h.CV g] at hc ⊢
  rw [if_neg (by simp at hg; omega)]
  exact hc
 block := by
  intro g hg _
  rw [h.CV g, if_neg (by omega)]
 mono := by
  intro lv g i _ hu
  rcases hu with hu | hu
  ·rcases (h.Bb g).1 hu with hu | ⟨_, rfl⟩
   ·exact .inl (.inl hu)
   ·exact .inr (Nat.le_refl _)
  cases lv with
  | some lv =>
   obtain ⟨b, h1, h2, h3⟩ := hu
   rw [h.lk] at h2
   rw [h.H] at h3
   rw [h.CI] at h1
   exact .inl (.inr ⟨b, h1, h2, h3⟩)
  | none =>
   obtain ⟨b, h1, h3⟩ := hu
   rw [h.H] at h3
   rw [h.CI] at h1
   exact .inl (.inr ⟨b, h1, h3⟩)
 CI := fun b _ hn => ⟨by rw [h.CI], by rw [h.H]; exact hn⟩
 cells := fun b _ hn => by rw [h.H]; exact hn
 Br := by
  intro b l n' sz' _ hB
  rw [h.H] at hB
  refine ⟨n', hB, Nat.le_refl _, fun _ => ⟨by rw [h.CI], fun c' t' hc => ⟨c', ?_, rfl⟩⟩⟩
  rw [h.CV]
  split
  ·have := Array.getElem?_eq_some_iff.1 hc |>.1
   omega
  ·exact hc
 fresh := fun b hl => .inl ⟨by rw [h.CI], by rw [h.H] at hl; exact hl⟩
 Bb := fun g hg => (h.Bb g).2 (.inl hg)
 Hr := fun g hg => (h.Bb g).1 hg |>.imp id fun e => by rw [e.2]; exact Nat.le_refl _
 H5 := fun g _ hl => by rw [h.CV g, if_neg (by omega)]
theorem Er.rel {E E' : AZ} {c : Array Value} {t : TypeId} (h : Er E E' c t) (hh : CJ E) : CJ E' where
 cells := by
  intro b sz cs hB
  rw [h.H] at hB
  obtain ⟨c', t', h1, h2, h3⟩ := hh.cells b sz cs hB
  rw [h.CI, h.CV, if_neg (by have := Array.getElem?_eq_some_iff.1 h1 |>.1; omega)]
  exact ⟨c', t', h1, h2, fun i v hv => let ⟨u, h4, h5⟩ := h3 i v hv; ⟨u, h4, h.Ch.rep hh v u h5⟩⟩
 dm := by rw [h.mm, h.lk]; exact hh.dm
 lvl := by
  intro b l n sz hB
  rw [h.H] at hB
  rw [h.lk]
  exact hh.lvl b l n sz hB
 Br := by
  intro b l n sz hB
  rw [h.H] at hB
  obtain ⟨c', t', h1, h2⟩ := hh.Br b l n sz hB
  rw [h.CI, h.CV, if_neg (by have := Array.getElem?_eq_some_iff.1 h1 |>.1; omega)]
  exact ⟨c', t', h1, h2⟩
 maps := by
  intro b BJ hB
  rw [h.H] at hB
  obtain ⟨h1, h2⟩ := hh.maps b BJ hB
  rw [h.CI, h.CV, if_neg (by have := Array.getElem?_eq_some_iff.1 h1 |>.1; omega)]
  exact ⟨h1, h2⟩
 inj := by
  intro b b' h1 h2 he
  rw [h.H] at h1 h2
  rw [h.CI] at he
  exact hh.inj b b' h1 h2 he
 Bb := fun g hg => by
  rw [h.heap, Array.size_push, h.CI, h.H]
  rcases (h.Bb g).1 hg with hg | ⟨_, rfl⟩
  ·have := (hh.Bb g hg).1
   exact ⟨by omega, (hh.Bb g hg).2⟩
  ·exact ⟨by omega, fun b hl e => by have := Ek hh hl; omega⟩
theorem Er.DB {E E' : AZ} {c : Array Value} {t : TypeId} (h : Er E E' c t) {base nb d : Nat} (hnb : nb ≤ E.n) (hd : d ≤ E.m) (hf : D4 E base nb d) (hh : CJ E) : D4 E' base nb d := by
 intro b sz cs hlt hB c' t' hc i v u hv hu
 rw [h.H] at hB
 rw [h.CI, h.CV] at hc
 split at hc
 ·have := Ek hh (b := b) (by rw [hB]; trivial)
  omega
 ·exact (h.Ch.shrink hh hnb hd).rep v u (hf b sz cs hlt hB c' t' hc i v u hv hu)
theorem Er.kC {E E' : AZ} {c : Array Value} {t : TypeId} (h : Er E E' c t) (hh : CJ E) (hn : E.w.heap.size ∉ E'.Bb) (lv : Option Nat) (i : Nat) : ¬ E'.U lv E.w.heap.size i := by
 intro hu
 rcases Qr hu with hu | ⟨b, h1, hl⟩
 ·exact hn hu
 rw [h.CI] at h1
 rw [h.H] at hl
 have := Ek hh hl
 omega
section
variable {c : Cx} {E : AZ} {S : St} {a : Act} {o : Oper}
theorem Er.after (hs : Cc c E S a) {E1 E' : AZ} {H1 : A3} {cs : Array Value} {t : TypeId} (h0 : B8 c E E1 H1) (h : Er E1 E' cs t) : B8 c E E' H1 where
 H := by rw [h.H, h0.H]
 n := by rw [h.nn, h0.n]
 m := h.mm.trans h0.m
 Ch := h0.Ch.trans h.Ch
 heap := h.rel h0.heap
 Hn := fun hg base nb d hb hn hd hf => h.DB (Nat.le_trans hn h0.Ch.len) (by rw [h0.m]; exact hd) (h0.Hn hg base nb d hb hn hd hf) h0.heap
 IK := fun hg base d hb hd hf => (h.DB (Nat.le_refl _) (by rw [h0.m]; exact hd) (h0.IK hg base d hb hd hf) h0.heap).up h.Ch.len
 kept := h0.kept
theorem Mj (hs : Cc c E S a) {E1 : AZ} {H1 : A3} (h0 : B8 c E E1 H1) {k : Nat} {v v' : V} {H' : A3} (h : B4 c.base k H1 v = some (v', H')) :
  B8 c E (E1.heap H') H' ∧ Fq E1 (E1.heap H') ∧ (∀ u, AA E1 v u → AA ((E1.heap H').shrink 0 0) v' u) ∧ H'.length = H1.length := by
 have hg := IL c.base k E1 v v' H' (by rw [h0.H]; exact h) h0.heap
 obtain ⟨e, r, p⟩ := hg
 have hlen := HI c.base k H1 v v' H' h
 have hrf : ∀ base nb d, nb ≤ E1.n → d ≤ E1.m → D4 E1 base nb d → D4 (E1.heap H') base nb d := by
  intro base nb d hnb hd hf b sz cs hlt hB c' t hc i x u hv hu
  have hsame := Om c.base k H1 v v' H' h b sz cs hB
  rw [← h0.H] at hsame
  exact (e.shrink h0.heap hnb hd).rep x u (hf b sz cs hlt hsame c' t hc i x u hv hu)
 refine ⟨⟨rfl, ?_, h0.m, h0.Ch.trans e, r, fun hg base nb d hb hn hd hf => hrf base nb d (Nat.le_trans hn h0.Ch.len) (by rw [h0.m]; exact hd) (h0.Hn hg base nb d hb hn hd hf), fun hg base d hb hd hf => hrf base E1.n d (Nat.le_refl _) (by rw [h0.m]; exact hd) (h0.IK hg base d hb hd hf), fun b hb hl => (Jl c.base k H1 v v' H' h b hb).trans (h0.kept b hb hl)⟩, e, p, hlen⟩
 show E1.n = _; rw [h0.n, hlen]
theorem I5 (hs : Cc c E S a) : ∀ (ps : List (Nat × V)) (E1 : AZ) (H1 : A3) (ps' : List (Nat × V)) (H' : A3), B8 c E E1 H1 → E1.w = E.w → CM c H1 ps = some (ps', H') →
  ∃ E', B8 c E E' H' ∧ E'.w = E.w ∧ Fq E1 E' ∧ ∀ us, Jv E1 ps us → Jv E' ps' us
 | [], E1, H1, ps', H', h0, hw, h => by
  simp only [CM, Option.some.injEq, Prod.mk.injEq] at h
  obtain ⟨rfl, rfl⟩ := h
  exact ⟨E1, h0, hw, Fq.refl _, fun us r => r⟩
 | (i, v) :: ps, E1, H1, ps', H', h0, hw, h => by
  simp only [CM, Option.bind_eq_some_iff, Option.map_eq_some_iff, Prod.exists, Prod.mk.injEq] at h
  obtain ⟨v1, H2, hv, ps2, H3, h2, rfl, rfl⟩ := h
  have stay : (v1, H2) = (v, H1) → ∃ E', B8 c E E' H3 ∧ E'.w = E.w ∧ Fq E1 E' ∧ ∀ us, Jv E1 ((i, v) :: ps) us → Jv E' ((i, v1) :: ps2) us := by
   intro e
   simp only [Prod.mk.injEq] at e
   obtain ⟨rfl, rfl⟩ := e
   obtain ⟨E', k1, k2, k3, k4⟩ := I5 hs ps E1 H2 ps2 H3 h0 hw h2
   refine ⟨E', k1, k2, k3, fun us r => ?_⟩
   simp only [Jv] at r ⊢
   obtain ⟨u, us', r1, r2, r3⟩ := r
   exact ⟨u, us', r1, k3.rep h0.heap v1 u r2, k4 us' r3⟩
  unfold Fy at hv
  split at hv
  ·simp only [Option.some.injEq] at hv
   exact stay hv.symm
  split at hv
  ·split at hv
   ·simp only [Option.some.injEq] at hv
    exact stay hv.symm
   ·cases hv
  ·obtain ⟨g1, g2, g3, g4⟩ := Mj hs h0 hv
   obtain ⟨E', k1, k2, k3, k4⟩ := I5 hs ps (E1.heap H2) H2 ps2 H3 g1 hw h2
   refine ⟨E', k1, k2, g2.trans k3, fun us r => ?_⟩
   simp only [Jv] at r ⊢
   obtain ⟨u, us', r1, r2, r3⟩ := r
   refine ⟨u, us', r1, k3.rep g1.heap _ _ ?_, k4 us' (g2.kU h0.heap _ _ r3)⟩
   exact (CX.grow (E1.heap H2) (Nat.zero_le _) (Nat.zero_le _)).rep _ _ (g3 u r2)
def AZ.fX (E : AZ) (w : World) : AZ := { E with w := w }
theorem AZ.Wo (E : AZ) (w : World) {c : Array Value} {t : TypeId} (h1 : w.heap = E.w.heap.push (.cells c t (0, 0))) (h2 : w.os = E.w.os) (h3 : w.tape = E.w.tape) (h4 : w.output = E.w.output) : Er E (E.fX w) c t where
 heap := h1
 os := h2
 tape := h3
 output := h4
 CI := rfl
 H := rfl
 lk := rfl
 nn := rfl
 mm := rfl
 Bb := fun g => ⟨.inl, fun h => h.elim id (·.1)⟩
theorem LR {E' : AZ} {lv : Option Nat} {g : Nat} {arr : Array Value} {t : TypeId} {cs : List V} (hw : E'.w.heap[g]? = some (.cells arr t (0, 0))) (hr : AP E' cs (arr.toList.take cs.length)) (hu : ∀ i, i < cs.length → ¬ E'.U lv g i) : CN E' lv g 0 cs := by
 refine FA _ _ fun i v hi => ?_
 obtain ⟨_, hg⟩ := BP _ _ hr
 obtain ⟨u, h1, h2⟩ := hg i v hi
 have hil : i < cs.length := by
  rcases Nat.lt_or_ge i cs.length with h | h
  ·exact h
  ·rw [List.getElem?_eq_none h] at hi; cases hi
 refine ⟨u, ?_, h2, by rw [Nat.zero_add]; exact hu i hil⟩
 rw [cell_of_row _ _ _ _ _ _ hw, Nat.zero_add]
 rw [List.getElem?_take_of_lt hil, Array.getElem?_toList] at h1
 exact h1
theorem MF (hs : Cc c E S a) {t e : TypeId} {n sz : Nat} {parts : Array (Nat × Operand)} {ps ps' : List (Nat × V)} {H' : A3} {z cs : List V} (ho : o.op = .buildSlice t n parts) (hp : Qz S.T parts.toList = some ps) (hem : CM c S.H ps = some (ps', H'))
  (he : Ax c.P t = some e) (hsz : B3 c.P e = some sz) (hz : BI c.P e = some z) (hzl : z.length = sz) (hsz0 : sz ≠ 0) (hsm : n * sz ≤ 1048576) (h : E5 (fun i => some (i * sz, sz)) (List.replicate n z).flatten ps' = some cs) :
  Gc c E a o (.tl n cs) H' := by
 obtain ⟨E1, k1, k2, k3, k4⟩ := I5 hs ps E S.H ps' H' (B8.refl hs) rfl hem
 have hparts := k4 _ (S5 hs _ _ hp)
 obtain ⟨i, x, vv, h1, h2, h3, rfl⟩ := Ij hz
 obtain ⟨i', hi', hsize⟩ := IM hsz
 rw [h1] at hi'
 simp only [Option.some.injEq] at hi'
 subst hi'
 subst hsize
 have hmr := PB (E := E1) (GB E1 h3) (by rw [hzl]; exact hsz0) n
 rw [hzl] at hmr
 obtain ⟨arr, f1, f2⟩ := KL _ ps' _ _ _ cs h hparts hmr
 have hplen : cs.length = n * i.size := by
  have := K5 _ ps' _ cs h
  rw [this, JC, hzl]
 obtain ⟨hl, _⟩ := BP _ _ f2
 have hrun : (Instr.buildSlice t n (parts.map fun (i, x) => (i, a.eval x))).run c.P E.w = .ok (.slice (some ⟨E.w.heap.size, 0, none⟩) n n) (E.w.alloc (.cells arr e)) := by
  by_cases hn : n = 0
  ·subst hn
   have : arr = #[] := by
    have h0 : arr.size = 0 := by rw [← Array.length_toList, ← hl, hplen, Nat.zero_mul]
    exact Array.eq_empty_of_size_eq_zero h0
   subst this
   have hfz : Instr.fill (fun i_1 => some (i_1 * i.size, i.size)) #[] (parts.map fun (i, x) => (i, a.eval x)).toList = some #[] := by
    have : madeCells x.cells (0 * i.size) = #[] := by simp [madeCells, Array.range_zero']
    rw [this] at f1
    rw [← f1]
    congr 1
    simp
   have hfz' : Instr.fill (fun i_1 => some (i_1 * i.size, i.size)) #[] (parts.toList.map fun x => (x.fst, a.eval x.snd)) = some #[] := by simpa using hfz
   simp [Instr.buildSlice, run_underlying (CA he), sizeOf, typeInfo, h1, newRow, Array.range_zero', hfz']
  ·refine run_buildSlice E.w t e n _ arr i x (CA he) h1 h2 (by omega) (by intro e0; rcases Nat.mul_eq_zero.1 e0 with h | h <;> omega) ?_
   have : (parts.map fun (i, x) => (i, a.eval x)).toList = parts.toList.map fun p => (p.1, a.eval p.2) := by simp
   rw [this]
   exact f1
 have hsil := AZ.Wo E1 (E.w.alloc (.cells arr e)) (c := arr) (t := e) (by rw [k2]; rfl) (by rw [k2]; rfl) (by rw [k2]; rfl) (by rw [k2]; rfl)
 refine ⟨_, Er.after hs k1 hsil, .inl ⟨.slice (some ⟨E.w.heap.size, 0, none⟩) n n, ?_, ?_⟩⟩
 ·simp only [execOp, ho, Sem.run_bind, hrun, Result.andThen_ok, Sem.run_pure]; rfl
 ·simp only [AA]
  refine ⟨_, rfl, .inr ⟨_, _, rfl, LR (arr := arr) (t := e) ?_ ?_ fun i _ => ?_⟩⟩
  ·rw [hsil.CV, ← k2, if_pos rfl]
  ·rw [List.take_of_length_le (by rw [hl]; exact Nat.le_refl _)]
   exact hsil.Ch.Hv k1.heap _ _ f2
  ·rw [← k2]; exact hsil.kC k1.heap (fun e => absurd (k1.heap.Bb _ e).1 (Nat.lt_irrefl _)) (some 0) i
theorem I4 (hh : CJ E) {sz n : Nat} {x : V} {u : Value} {xs : List V} (hr : AA E x u) (hn : CZ x = some n) (hx : Fx E.H sz x = some xs) (hl : xs.length = n * sz) :
  ∃ A cap, u = .slice A n cap ∧ ∃ us : List Value, AP E xs us ∧ us.length = n * sz ∧ (n = 0 ∨ ∃ ad : Addr, A = some ad ∧ ∀ (j : Nat) v, us[j]? = some v → E.w.cell? (ad.add j) = some v) := by
 have row : ∀ {lv : Option Nat} {cs : List V} {A : Option Addr} {cap : Nat}, u = .slice A n cap → xs = cs → (n = 0 ∨ ∃ g o, A = some ⟨g, o, none⟩ ∧ CN E lv g o cs) →
   ∃ A cap, u = .slice A n cap ∧ ∃ us : List Value, AP E xs us ∧ us.length = n * sz ∧ (n = 0 ∨ ∃ ad : Addr, A = some ad ∧ ∀ (j : Nat) v, us[j]? = some v → E.w.cell? (ad.add j) = some v) := by
  intro lv cs A cap hu hxs hA
  subst hxs
  rcases hA with h0 | ⟨g, o, rfl, hrl⟩
  ·subst h0
   have : xs = [] := List.eq_nil_of_length_eq_zero (by simpa using hl)
   subst this
   exact ⟨A, cap, hu, [], by simp only [AP], by simp, .inl rfl⟩
  ·refine ⟨_, cap, hu, (List.range xs.length).map fun i => (E.w.cell? ⟨g, o + i, none⟩).getD undef, DL fun i v hi => let ⟨u, a1, a2, _⟩ := CQ _ _ hrl i v hi; ⟨u, a1, a2⟩, by simp [hl], .inr ⟨_, rfl, fun j v hj => ?_⟩⟩
   have hjl : j < xs.length := by
    rcases Nat.lt_or_ge j xs.length with h | h
    ·exact h
    ·rw [List.getElem?_eq_none (by simp only [List.length_map, List.length_range]; exact h)] at hj; cases hj
   simp only [List.getElem?_map, List.getElem?_range hjl, Option.map_some, Option.some.injEq] at hj
   obtain ⟨u', a1, _, _⟩ := CQ _ _ hrl j _ (List.getElem?_eq_getElem hjl)
   rw [a1] at hj
   simp only [Option.getD_some] at hj
   subst hj
   rw [Addr.add_lit]
   exact a1
 unfold Fx at hx
 unfold CZ at hn
 cases x with
 | lit lv len cs =>
  simp only [Option.some.injEq] at hx hn
  subst hx hn
  simp only [AA] at hr
  obtain ⟨_, A, cap, hu, _, hA⟩ := hr
  exact row hu rfl hA
 | tl len cs =>
  simp only [Option.some.injEq] at hx hn
  subst hx hn
  simp only [AA] at hr
  obtain ⟨A, hu, hA⟩ := hr
  exact row hu rfl hA
 | snap b len cs =>
  simp only [Option.some.injEq] at hx hn
  subst hx hn
  simp only [AA] at hr
  obtain ⟨_, ⟨A, cap, hu, _, ⟨g, o, hA, _, hA2⟩, _⟩, _⟩ := hr
  exact row hu rfl (.inr ⟨g, o, hA, hA2⟩)
 | sl b off len =>
  simp only [Option.some.injEq] at hn
  subst hn
  dsimp only at hx
  split at hx
  case h_2 => cases hx
  rename_i z cs hb
  split at hx
  case isFalse => cases hx
  rename_i hc
  simp only [Option.some.injEq] at hx
  simp only [AA] at hr
  obtain ⟨_, ⟨cap, hu, _⟩, _⟩ := hr
  obtain ⟨c0, t, q1, q2, q3⟩ := hh.cells b z cs hb
  have hex : ∀ (i : Nat) v, xs[i]? = some v → ∃ u, E.w.cell? ⟨E.φ b, off + i, none⟩ = some u ∧ AA E v u := by
   intro i v hi
   rw [← hx, List.getElem?_take] at hi
   split at hi
   ·rw [List.getElem?_drop] at hi
    obtain ⟨u, k1, k2⟩ := q3 _ v hi
    exact ⟨u, by rw [cell_of_row _ _ _ _ _ _ q1]; exact k1, k2⟩
   ·cases hi
  refine ⟨_, cap, hu, (List.range xs.length).map fun i => (E.w.cell? ⟨E.φ b, off + i, none⟩).getD undef, DL hex, by simp [hl], .inr ⟨_, rfl, fun j v hj => ?_⟩⟩
  have hjl : j < xs.length := by
   rcases Nat.lt_or_ge j xs.length with h | h
   ·exact h
   ·rw [List.getElem?_eq_none (by simp only [List.length_map, List.length_range]; exact h)] at hj; cases hj
  simp only [List.getElem?_map, List.getElem?_range hjl, Option.map_some, Option.some.injEq] at hj
  obtain ⟨u', a1, _⟩ := hex j _ (List.getElem?_eq_getElem hjl)
  rw [a1] at hj
  simp only [Option.getD_some] at hj
  subst hj
  rw [Addr.add_lit]
  exact a1
 | _ => simp at hn
theorem MS {P : Program} (w : World) (t ty e ty2 t0 : TypeId) (i : TypeInfo) (ht : P.underlying t = some (.slice e)) {e2 : TypeId} (ht2 : P.underlying ty2 = some (.slice e2)) (hi : P.info? e = some i)
  (g sLen sCap : Nat) (cur : Array Value) (hg : w.heap[g]? = some (.cells cur t0 (0, 0)))
  (a : Addr) (m c : Nat) (news : List Value) (hl : news.length = m * i.size) (hnews : ∀ (j : Nat) u, news[j]? = some u → w.cell? (a.add j) = some u) (h1 : ∀ u ∈ news, u.oneCell' = true)
  (hroom : sLen + m ≤ sCap) (hfit : sLen * i.size + news.length ≤ cur.size) :
  (Builtin.append_ #[t, ty2] ty #[.slice (some ⟨g, 0, none⟩) sLen sCap, .slice (some a) m c]).run P w =
   .ok (.slice (some ⟨g, 0, none⟩) (sLen + m) sCap) (w.setRow g (cur.toList.take (sLen * i.size) ++ news ++ cur.toList.drop (sLen * i.size + news.length)).toArray) := by
 have hf := run_firstCells_some (P := P) w i.size m a m c news hl hnews
 have hst := run_storeCells_at P g (sLen * i.size) t0 news 0 cur w hg (by simpa using hfit) h1
 simp only [Nat.add_zero] at hst
 simp [Builtin.append_, run_underlying ht, run_underlying ht2, sizeOf, typeInfo, hi, Builtin.lenOf, hroom, hf, Addr.add_lit, hst]
theorem MR {P : Program} (w : World) (t ty e ty2 : TypeId) (i : TypeInfo) (ht : P.underlying t = some (.slice e)) {e2 : TypeId} (ht2 : P.underlying ty2 = some (.slice e2)) (hi : P.info? e = some i)
  (base x : Option Addr) (sLen sCap c : Nat) (hroom : sLen ≤ sCap) :
  (Builtin.append_ #[t, ty2] ty #[.slice base sLen sCap, .slice x 0 c]).run P w = .ok (.slice base sLen sCap) w := by
 cases base <;> cases x <;> simp [Builtin.append_, run_underlying ht, run_underlying ht2, sizeOf, typeInfo, hi, Builtin.lenOf, hroom, Builtin.firstCells, loadCells, loadCellsFrom, storeCells]
theorem Hz {P : Program} (w : World) (t ty e ty2 : TypeId) (i : TypeInfo) (z : Value) (ht : P.underlying t = some (.slice e)) {e2 : TypeId} (ht2 : P.underlying ty2 = some (.slice e2)) (hi : P.info? e = some i) (hz : i.zero = some z)
  (b : Option Addr) (sLen sCap : Nat) (olds : List Value) (hlo : olds.length = sLen * i.size) (holds : sLen = 0 ∨ ∃ ad : Addr, b = some ad ∧ ∀ (j : Nat) v, olds[j]? = some v → w.cell? (ad.add j) = some v)
  (a : Addr) (n c : Nat) (news : List Value) (hl : news.length = n * i.size) (hnews : ∀ (j : Nat) v, news[j]? = some v → w.cell? (a.add j) = some v)
  (hg : sCap < sLen + n) (h63 : ((sLen + n : Nat) : Int) ≤ 9223372036854775807) (hfit : Builtin.nextslicecap (sLen + n) sCap * i.bytes ≤ 281474976710656) :
  (Builtin.append_ #[t, ty2] ty #[.slice b sLen sCap, .slice (some a) n c]).run P w =
   .ok (.slice (some ⟨w.heap.size, 0, none⟩) (sLen + n) (grownCap w (sLen + n) sCap e))
    (w.drew.alloc (.cells (olds.toArray ++ news.toArray ++ Builtin.zeroCells z.cells (grownCap w (sLen + n) sCap e - (sLen + n))) e)) := by
 have hn : ¬ (sLen + n ≤ sCap) := by omega
 have h63' : ¬ (9223372036854775807 < ((sLen : Int) + (n : Int))) := by omega
 have h48' : ¬ (281474976710656 < Builtin.nextslicecap (sLen + n) sCap * i.bytes) := by omega
 have hf := run_firstCells_some (P := P) w.drew i.size n a n c news hl (by simpa using hnews)
 have hfo : (Builtin.firstCells i.size sLen (.slice b sLen sCap)).run P w.drew = .ok olds.toArray w.drew := by
  rcases holds with h0 | ⟨ad, rfl, hh⟩
  ·subst h0
   have : olds = [] := List.eq_nil_of_length_eq_zero (by simpa using hlo)
   subst this
   cases b <;> simp [Builtin.firstCells, loadCells, loadCellsFrom]
  ·exact run_firstCells_some (P := P) w.drew i.size sLen ad sLen sCap olds hlo (by simpa using hh)
 simp [Builtin.append_, run_underlying ht, run_underlying ht2, sizeOf, typeInfo, zeroValue, hi, hz, Builtin.lenOf, hn, h63', h48', Question.forced, hf, hfo, newRow, grownCap]
 congr 2
 apply Array.ext'
 simp
theorem EV {E : AZ} : ∀ {xs ys : List V} {us vs : List Value}, AP E xs us → AP E ys vs → AP E (xs ++ ys) (us ++ vs)
 | [], ys, us, vs, h, k => by simp only [AP] at h; subst h; simpa using k
 | x :: xs, ys, us, vs, h, k => by
  simp only [AP, List.cons_append] at h ⊢
  obtain ⟨u, us', rfl, h1, h2⟩ := h
  exact ⟨u, us' ++ vs, rfl, h1, EV h2 k⟩
theorem KU {E : AZ} {xs : List V} {us vs : List Value} (h : AP E xs us) (hv : vs.take xs.length = us) : AP E xs (vs.take xs.length) := by rw [hv]; exact h
theorem bK {E : AZ} {xs : List V} {us : List Value} (h : AP E xs us) (hc : xs.all V.Bh = true) : ∀ u ∈ us, u.oneCell' = true := by
 intro u hu
 obtain ⟨i, hi⟩ := List.getElem?_of_mem hu
 obtain ⟨hl, hg⟩ := BP _ _ h
 have hil : i < xs.length := by rw [hl]; exact (List.getElem?_eq_some_iff.1 hi).1
 obtain ⟨u', h1, h2⟩ := hg i _ (List.getElem?_eq_getElem hil)
 rw [hi] at h1
 simp only [Option.some.injEq] at h1
 subst h1
 rw [List.all_eq_true] at hc
 exact Ms h2 (hc _ (List.getElem_mem hil))
theorem X9 {E' : AZ} {H' : A3} (h : B8 c E E' H') {g : Nat} : E'.Qs g := by
 intro b hb hl
 rw [h.H, List.getElem?_eq_none (by rw [← h.n]; exact hb)] at hl
 exact hl.elim
theorem VC {E' : AZ} {H' : A3} (h : E'.H = H') (hn : E'.n = H'.length) {g : Nat} : E'.Qs g := by
 intro b hb hl
 rw [h, List.getElem?_eq_none (by rw [← hn]; exact hb)] at hl
 exact hl.elim
theorem Rn (hs : Cc c E S a) {st xt : TypeId} {args : Array Operand} {ats : Array TypeId} {s x : Operand} {sv xv v : V} {H' : A3} (ho : o.op = .call { callee := .builtin .append, args := args, argTypes := ats }) (hargs : args.toList = [s, x]) (hats : ats.toList = [st, xt])
    (hsv : ev S.T s = some sv) (hxv : ev S.T x = some xv) (h : DU c st xt S.H sv xv = some (v, H')) : Gc c E a o v H' := by
  have hrs := B5 hs s _ hsv
  have hrx := B5 hs x _ hxv
  have ha1 : args = #[s, x] := by apply Array.ext'; simpa using hargs
  have ha2 : ats = #[st, xt] := by apply Array.ext'; simpa using hats
  subst ha1 ha2
  unfold DU at h
  simp only [Option.bind_eq_some_iff] at h
  obtain ⟨e, he, sz, hsz, by_, hby, z, hz, h⟩ := h
  split at h
  case isFalse => cases h
  rename_i hc
  obtain ⟨hxt, hsz0, hzl⟩ := hc
  obtain ⟨e2, he2⟩ := Option.isSome_iff_exists.1 hxt
  simp only [Option.bind_eq_some_iff] at h
  obtain ⟨n, hn, xs, hxs, h⟩ := h
  split at h
  case isFalse => cases h
  rename_i hc
  obtain ⟨hxl, hxc⟩ := hc
  obtain ⟨i, zx, zv, h1, h2, h3, rfl⟩ := Ij hz
  obtain ⟨i', hi', hsize⟩ := IM hsz
  rw [h1] at hi'
  simp only [Option.some.injEq] at hi'
  subst hi'
  have hbytes : i.bytes = by_ := by unfold C3 at hby; rw [h1] at hby; simpa using hby
  subst hbytes hsize
  have hzcell : zx.cells.size = i.size := by
    have := (BP _ _ (GB E h3)).1
    rw [hzl] at this
    rw [this]; simp
  rw [← hs.H] at hxs
  obtain ⟨B, capx, hx, us, hus, hul, hB⟩ := I4 hs.heap hrx hn hxs hxl
  have hone := bK hus hxc
  have hexec : ∀ {r w'} (_ : (Builtin.append_ #[st, xt] o.type #[a.eval s, a.eval x]).run c.P E.w = .ok r w'), (execOp a.eval o).run c.P E.w = .ok (.value r) w' := by
    intro r w' hr
    simp only [execOp, ho, resolve, Sem.run_bind, Sem.run_pure, Result.andThen_ok, invoke, builtin, List.map_toArray, List.map_cons, List.map_nil, hr]
  have hnone : n = 0 → ∀ {A : Option Addr} {m cap : Nat}, a.eval s = .slice A m cap → m ≤ cap → (execOp a.eval o).run c.P E.w = .ok (.value (a.eval s)) E.w := by
    intro h0 A m cap hA hmc
    subst h0
    refine hexec ?_
    rw [hA, hx]
    exact MR E.w st o.type e xt i (CA he) (CA he2) h1 A B m cap capx hmc
  cases sv with
  | tl m cs =>
    dsimp only at h
    have hrs' := hrs
    simp only [AA] at hrs'
    obtain ⟨A, hA, hAr⟩ := hrs'
    split at h
    · rename_i h0
      simp only [Option.some.injEq, Prod.mk.injEq] at h
      obtain ⟨rfl, rfl⟩ := h
      exact ⟨E, B8.refl hs, .inl ⟨_, hnone h0 hA (Nat.le_refl _), hrs⟩⟩
    · rename_i h0
      split at h
      case isFalse => cases h
      rename_i hc
      obtain ⟨hcl, hbd⟩ := hc
      simp only [Option.some.injEq, Prod.mk.injEq] at h
      obtain ⟨rfl, rfl⟩ := h
      have hb2 : (m + n) * i.bytes + (m + n) ≤ 70368744177664 := by rw [Nat.mul_add, Nat.mul_one] at hbd; exact hbd
      obtain ⟨A2, cap2, hA2, olds, holds, hol, hoc⟩ := I4 (n := m) hs.heap hrs rfl (sz := i.size) (xs := cs) (by simp [Fx]) hcl
      rw [hA] at hA2
      simp only [Value.slice.injEq] at hA2
      obtain ⟨rfl, _, rfl⟩ := hA2
      rcases hB with hB | ⟨ad, rfl, hB⟩
      · exact absurd hB h0
      have hrun := Hz (P := c.P) E.w st o.type e xt i zx (CA he) (CA he2) h1 h2 A m m olds hol hoc ad n capx us hul hB (by omega) (by omega) (growslice_fits (by omega) (by omega))
      have hp := AZ.Ry E (E.w.drew.alloc (.cells (olds.toArray ++ us.toArray ++ Builtin.zeroCells zx.cells (grownCap E.w (m + n) m e - (m + n))) e)) (.Br c.d (m + n) i.size) (c := _) (t := e) rfl rfl rfl rfl (by rw [hs.n, hs.H])
      have hge := grownCap_ge E.w (m + n) m e
      have hcsz : (olds.toArray ++ us.toArray ++ Builtin.zeroCells zx.cells (grownCap E.w (m + n) m e - (m + n))).size = grownCap E.w (m + n) m e * i.size := by
        simp only [Array.size_append, List.size_toArray, size_zeroCells, hzcell, hol, hul, ← Nat.add_mul]
        congr 1
        omega
      have hr := hp.rel hs.heap (fun sz' cs e => by cases e) (fun q k z e => by
        simp only [Bp.Br.injEq] at e
        obtain ⟨rfl, rfl, rfl⟩ := e
        rw [hcsz]
        exact ⟨Nat.mul_le_mul_right _ hge, by rw [hs.lk]; exact Nat.le_refl _⟩)
      refine ⟨_, hp.after hs hr, .inl ⟨_, hexec (by rw [hA, hx]; exact hrun), ?_⟩⟩
      simp only [AA]
      have hgetH := hp.Bm
      refine ⟨by rw [hp.n, hs.n]; omega, ⟨_, _, rfl, hge, ⟨_, _, rfl, fun _ => X9 (hp.after hs hr), LR (by rw [hp.CV, if_pos rfl]) ?_ fun j hj => ?_⟩, fun q k z hk => ?_⟩, fun z q hk => ?_⟩
      · refine hp.Ch.Hv hs.heap _ _ (KU (EV holds hus) ?_)
        simp only [Array.toList_append, List.append_assoc]
        rw [← List.append_assoc, show (cs ++ xs).length = (olds ++ us).length by simp [hol, hul, hcl, hxl]]
        exact List.take_left
      · rintro (hu | ⟨b, p1, p3⟩)
        · exact absurd (hs.heap.Bb _ hu).1 (Nat.lt_irrefl _)
        rw [hp.CI] at p1
        rw [hp.Bm] at p3
        by_cases hb : b = E.H.length
        · rw [if_pos hb] at p3
          simp only at p3
          rw [show (cs ++ xs).length = (m + n) * i.size by simp [hcl, hxl, Nat.add_mul]] at hj
          omega
        · rw [if_neg hb] at p1 p3
          have hl : live E.H[b]? := by
            split at p3
            · rename_i he; rw [he]; trivial
            · rename_i he; rw [he]; trivial
            · rename_i he; rw [he]; trivial
            · exact p3.elim
          have := Ek hs.heap hl
          omega
      · rw [← hs.H, hgetH, if_pos rfl] at hk
        simp only [Option.some.injEq, Bp.Br.injEq] at hk
        obtain ⟨_, rfl, rfl⟩ := hk
        refine ⟨Nat.le_refl _, fun _ => ⟨by rw [hp.CI, ← hs.H, if_pos rfl], _, _, by rw [hp.CI, ← hs.H, if_pos rfl, hp.CV, if_pos rfl], hcsz.symm⟩⟩
      · rw [← hs.H, hgetH, if_pos rfl] at hk
        cases hk
  | snap b m cs =>
    dsimp only at h
    have hrs' := hrs
    simp only [AA] at hrs'
    obtain ⟨hbn, ⟨A, cap, hA, hmc, hAr, hcur⟩, hnc⟩ := hrs'
    split at h
    · rename_i h0
      simp only [Option.some.injEq, Prod.mk.injEq] at h
      obtain ⟨rfl, rfl⟩ := h
      exact ⟨E, B8.refl hs, .inl ⟨_, hnone h0 hA hmc, hrs⟩⟩
    · rename_i h0
      split at h
      case h_2 => cases h
      rename_i l m' sz' hb
      split at h
      case isFalse => cases h
      rename_i hc
      obtain ⟨hcl, hbd, rfl, rfl, hmw⟩ := hc
      simp only [Option.some.injEq, Prod.mk.injEq] at h
      obtain ⟨rfl, rfl⟩ := h
      have hb2 : (m' + n) * i.bytes + (m' + n) ≤ 70368744177664 := by rw [Nat.mul_add, Nat.mul_one] at hbd; exact hbd
      rw [← hs.H] at hb
      obtain ⟨_, hcur⟩ := hcur l m' i.size hb
      obtain ⟨hA0, c0, t0, hrow, hcsz⟩ := hcur rfl
      obtain ⟨A2, cap2, hA2, olds, holds, hol, hoc⟩ := I4 (n := m') hs.heap hrs rfl (sz := i.size) (xs := cs) (by simp [Fx]) hcl
      rw [hA] at hA2
      simp only [Value.slice.injEq] at hA2
      obtain ⟨rfl, _, rfl⟩ := hA2
      rcases hB with hB | ⟨ad, rfl, hB⟩
      · exact absurd hB h0
      have hpos : 0 < n := Nat.pos_of_ne_zero h0
      have hfree : AV E.lk b = true := by rw [hs.lk]; exact He hs.Dk hmw
      have hblt : b < E.H.length := by rw [hs.H, ← hs.n]; exact hbn
      have hlt : m' < m' + n := Nat.lt_add_of_pos_right hpos
      have hkept : ∀ x, x < c.base → AV c.lk x = false → (S.H.set b (.Br l (m' + n) i.size))[x]? = E.H[x]? := by
        intro x hx hl
        rw [Ae, if_neg, hs.H]
        rintro ⟨rfl, _⟩
        rw [hs.lk] at hfree
        rw [hfree] at hl
        cases hl
      by_cases hroom : m' + n ≤ cap
      ·
        have hfit : m' * i.size + us.length ≤ c0.size := by rw [hul, ← hcsz, ← Nat.add_mul]; exact Nat.mul_le_mul_right _ hroom
        have hrun := MS (P := c.P) E.w st o.type e xt t0 i (CA he) (CA he2) h1 (E.φ b) m' cap c0 hrow ad n capx us hul hB hone hroom hfit
        let c' : Array Value := (c0.toList.take (m' * i.size) ++ us ++ c0.toList.drop (m' * i.size + us.length)).toArray
        have hget : ∀ k, c'[k]? = if m' * i.size ≤ k ∧ k < m' * i.size + us.length then us[k - m' * i.size]? else c0[k]? := fun k => Iy c0 us _ hfit k
        have hsz' : c'.size = c0.size := by
          simp only [c', List.size_toArray, List.length_append, List.length_take, List.length_drop, Array.length_toList]
          omega
        have hw : H7 E (E.write b c' (.Br l (m' + n) i.size)) b c0 c' t0 (.Br l (m' + n) i.size) :=
          { w := rfl, row := hrow, size := hsz', CI := rfl, H := rfl, lk := rfl, n := rfl, m := rfl, Bb := rfl, Mo := fun e => (hs.heap.Bb _ e).2 b (by rw [hb]; trivial) rfl, n0 := by rw [hs.n, hs.H], free := hfree
            kind := .inr ⟨l, m', m' + n, i.size, hb, rfl, hlt, fun k hk => (hget k).trans (if_neg (fun e => absurd e.1 (Nat.not_le.2 hk)))⟩ }
        have hr := hw.rel hs.heap (fun z q e => by cases e) (fun q k z e => by
          simp only [Bp.Br.injEq] at e
          obtain ⟨rfl, rfl, rfl⟩ := e
          rw [hsz', ← hcsz]
          exact Nat.mul_le_mul_right _ hroom)
        have hfor := fun base nb d hn hd hf => hw.DB (base := base) (nb := nb) (d := d) hn hd hf hs.heap (fun z q e => by cases e)
        refine ⟨E.write b c' (.Br l (m' + n) i.size), ⟨by show E.H.set b _ = _; rw [hs.H], by show E.n = _; rw [hs.n]; simp, rfl, hw.Ch, hr, fun _ base nb d _ hn hd hf => hfor base nb d hn hd hf, fun _ base d _ hd hf => hfor base E.n d (Nat.le_refl _) hd hf, hkept⟩, .inl ⟨_, hexec (by rw [hA, hx, hA0]; exact hrun), ?_⟩⟩
        simp only [AA]
        have holdget : olds = c0.toList.take (m' * i.size) := by
          rcases hoc with h0' | ⟨ad', had, hoc⟩
          · subst h0'
            simp only [Nat.zero_mul] at hol ⊢
            simp [List.eq_nil_of_length_eq_zero hol]
          · rw [hA0] at had
            simp only [Option.some.injEq] at had
            subst had
            apply List.ext_getElem?
            intro j
            rcases Nat.lt_or_ge j olds.length with hj | hj
            · have h4 := hoc j _ (List.getElem?_eq_getElem hj)
              rw [Addr.add_lit, cell_of_row _ _ _ _ _ _ hrow, Nat.zero_add] at h4
              rw [List.getElem?_eq_getElem hj, ← h4, List.getElem?_take_of_lt (by omega)]
              simp
            · rw [List.getElem?_eq_none hj, List.getElem?_eq_none (by simp; omega)]
        refine ⟨hbn, ⟨_, _, rfl, hroom, ⟨_, _, rfl, fun _ => VC (E' := E.write b c' (.Br l (m' + n) i.size)) rfl (by show E.n = (E.H.set b _).length; rw [hs.n, hs.H]; simp), LR (by rw [hw.CV, if_pos rfl]) ?_ fun j hj => ?_⟩, fun q k z hk => ?_⟩, fun z q hk => ?_⟩
        · refine hw.Ch.Hv hs.heap _ _ (KU (EV holds hus) ?_)
          show (c0.toList.take (m' * i.size) ++ us ++ c0.toList.drop (m' * i.size + us.length)).take _ = _
          rw [← holdget, show (cs ++ xs).length = (olds ++ us).length by simp [hol, hul, hcl, hxl]]
          exact List.take_left
        · rintro (hu | ⟨y, p1, p3⟩)
          · exact (hs.heap.Bb _ hu).2 b (by rw [hb]; trivial) rfl
          rw [hw.Bm] at p3
          by_cases hy : b = y
          · rw [if_pos hy] at p3
            simp only at p3
            rw [show (cs ++ xs).length = (m' + n) * i.size by simp [hcl, hxl, Nat.add_mul]] at hj
            omega
          · rw [if_neg hy] at p3
            have hl : live E.H[y]? := by
              split at p3
              · rename_i he; rw [he]; trivial
              · rename_i he; rw [he]; trivial
              · rename_i he; rw [he]; trivial
              · exact p3.elim
            exact hy (hs.heap.inj b y (by rw [hb]; trivial) hl p1.symm)
        · rw [hw.Bm, if_pos rfl] at hk
          simp only [Option.some.injEq, Bp.Br.injEq] at hk
          obtain ⟨_, rfl, rfl⟩ := hk
          exact ⟨Nat.le_refl _, fun _ => ⟨rfl, c', t0, by rw [show (E.write b c' (.Br l (m' + n) i.size)).φ b = E.φ b from rfl, hw.CV, if_pos rfl], by rw [hsz', hcsz]⟩⟩
        · rw [hw.Bm, if_pos rfl] at hk
          cases hk
      ·
        have hrun := Hz (P := c.P) E.w st o.type e xt i zx (CA he) (CA he2) h1 h2 A m' cap olds hol hoc ad n capx us hul hB (by omega) (by omega) (growslice_fits (by omega) (by omega))
        have hge := grownCap_ge E.w (m' + n) cap e
        have hcsz2 : (olds.toArray ++ us.toArray ++ Builtin.zeroCells zx.cells (grownCap E.w (m' + n) cap e - (m' + n))).size = grownCap E.w (m' + n) cap e * i.size := by
          simp only [Array.size_append, List.size_toArray, size_zeroCells, hzcell, hol, hul, ← Nat.add_mul]
          congr 1
          omega
        let E2 : AZ := { E with w := E.w.drew.alloc (.cells (olds.toArray ++ us.toArray ++ Builtin.zeroCells zx.cells (grownCap E.w (m' + n) cap e - (m' + n))) e), φ := fun y => if y = b then E.w.heap.size else E.φ y, H := E.H.set b (.Br l (m' + n) i.size) }
        have hmv : Ix E E2 b l m' (m' + n) i.size (olds.toArray ++ us.toArray ++ Builtin.zeroCells zx.cells (grownCap E.w (m' + n) cap e - (m' + n))) e :=
          { heap := rfl, os := rfl, tape := rfl, output := rfl, CI := fun _ => rfl, H := rfl, lk := rfl, n := rfl, m := rfl, Bb := rfl, V7 := hb, lt := hlt
            size := by rw [hcsz2]; exact Nat.mul_le_mul_right _ hge }
        have hr := hmv.rel hs.heap
        have hfor := fun base nb d hn hd hf => hmv.DB (base := base) (nb := nb) (d := d) hn hd hf hs.heap
        refine ⟨E2, ⟨by show E.H.set b _ = _; rw [hs.H], by show E.n = _; rw [hs.n]; simp, rfl, hmv.Ch, hr, fun _ base nb d _ hn hd hf => hfor base nb d hn hd hf, fun _ base d _ hd hf => hfor base E.n d (Nat.le_refl _) hd hf, hkept⟩, .inl ⟨_, hexec (by rw [hA, hx]; exact hrun), ?_⟩⟩
        simp only [AA]
        refine ⟨hbn, ⟨_, _, rfl, hge, ⟨_, _, rfl, fun _ => VC hmv.H (by show E.n = _; rw [hs.n, hs.H]; simp), LR (by rw [hmv.CV, if_pos rfl]) ?_ fun j hj => ?_⟩, fun q k z hk => ?_⟩, fun z q hk => ?_⟩
        · refine hmv.Ch.Hv hs.heap _ _ (KU (EV holds hus) ?_)
          simp only [Array.toList_append, List.append_assoc]
          rw [← List.append_assoc, show (cs ++ xs).length = (olds ++ us).length by simp [hol, hul, hcl, hxl]]
          exact List.take_left
        · rintro (hu | ⟨y, p1, p3⟩)
          · exact absurd (hs.heap.Bb _ hu).1 (Nat.lt_irrefl _)
          rw [hmv.CI] at p1
          rw [hmv.Bm] at p3
          by_cases hy : b = y
          · rw [if_pos hy] at p3
            simp only at p3
            rw [show (cs ++ xs).length = (m' + n) * i.size by simp [hcl, hxl, Nat.add_mul]] at hj
            omega
          · rw [if_neg (fun e => hy e.symm)] at p1
            rw [if_neg hy] at p3
            have hl : live E.H[y]? := by
              split at p3
              · rename_i he; rw [he]; trivial
              · rename_i he; rw [he]; trivial
              · rename_i he; rw [he]; trivial
              · exact p3.elim
            have := Ek hs.heap hl
            omega
        · rw [hmv.Bm, if_pos rfl] at hk
          simp only [Option.some.injEq, Bp.Br.injEq] at hk
          obtain ⟨_, rfl, rfl⟩ := hk
          exact ⟨Nat.le_refl _, fun _ => ⟨by rw [hmv.CI, if_pos rfl], _, _, by rw [hmv.CI, if_pos rfl, hmv.CV, if_pos rfl], hcsz2.symm⟩⟩
        · rw [hmv.Bm, if_pos rfl] at hk
          cases hk
  | _ => simp at h
end
theorem Mq {E : AZ} : ∀ (cs : List V) (us : List Value), (cs.all fun | .int .. | .bool _ | .str _ => true | _ => false) = true → AP E cs us → us = cs.map Cf
 | [], us, _, h => by simp only [AP] at h; exact h
 | c :: cs, us, hp, h => by
  simp only [List.all_cons, Bool.and_eq_true] at hp
  simp only [AP] at h
  obtain ⟨u, us', rfl, h1, h2⟩ := h
  rw [Mq cs us' hp.2 h2, List.map_cons]
  congr 1
  cases c <;> simp_all [AA, Cf]
theorem GZ {E : AZ} {v : V} {u : Value} (hp : BS v = true) (h : AA E v u) : u = Az v := by
 cases v with
 | agg cs =>
  simp only [AA] at h
  obtain ⟨vs, rfl, h⟩ := h
  have := Mq cs vs.toList hp h
  simp only [Az]
  rw [← this]
 | int _ _ => simp only [AA] at h; exact h
 | bool _ => simp only [AA] at h; exact h
 | str _ => simp only [AA] at h; exact h
 | _ => simp [BS] at hp
theorem En {E : AZ} : ∀ (cs : List V), (cs.all fun | .int .. | .bool _ | .str _ => true | _ => false) = true → AP E cs (cs.map Cf)
 | [], _ => by simp only [AP, List.map_nil]
 | c :: cs, hp => by
  simp only [List.all_cons, Bool.and_eq_true] at hp
  simp only [AP, List.map_cons]
  refine ⟨_, _, rfl, ?_, En cs hp.2⟩
  cases c <;> simp_all [AA, Cf]
theorem Jq (E : AZ) {v : V} (hp : BS v = true) : AA E v (Az v) := by
 cases v with
 | agg cs =>
  simp only [AA, Az]
  exact ⟨_, rfl, by simpa using En cs hp⟩
 | int _ _ => simp only [AA, Az, Cf]
 | bool _ => simp only [AA, Az, Cf]
 | str _ => simp only [AA, Az, Cf]
 | _ => simp [BS] at hp
theorem Qy {q : Sc} {x y : V} (hs : q ≠ .s) (h : Et q x y = some true) : Cf x = Cf y := by
 cases q <;> cases x <;> cases y <;> simp_all [Et, Cf]
theorem K1 : ∀ {ks : List Sc} {xs ys : List V}, (ks.all fun q => decide (q ≠ .s)) = true → xs.length = ks.length → ys.length = ks.length → Ck ks xs ys = some true → xs.map Cf = ys.map Cf
 | [], xs, ys, _, hx, hy, _ => by
  rw [List.eq_nil_of_length_eq_zero hx, List.eq_nil_of_length_eq_zero hy]
 | k :: ks, [], _, _, hx, _, _ => by simp at hx
 | k :: ks, _ :: _, [], _, _, hy, _ => by simp at hy
 | k :: ks, x :: xs, y :: ys, hk, hx, hy, h => by
  simp only [List.all_cons, Bool.and_eq_true, decide_eq_true_eq] at hk
  simp only [Ck, Option.bind_eq_some_iff] at h
  obtain ⟨b, h1, h2⟩ := h
  cases b with
  | false => simp at h2
  | true =>
   simp only [if_true] at h2
   simp only [List.map_cons, Qy hk.1 h1, K1 hk.2 (by simpa using hx) (by simpa using hy) h2]
theorem Jn {P : Program} {k : TypeId} {ks : List Sc} (h : Pu P k = some (.many ks)) : Im P k = some ks ∧ (ks.all fun q => decide (q ≠ .s)) = true := by
 unfold Pu at h
 split at h
 ·cases h
 ·simp only [Option.bind_eq_some_iff] at h
  obtain ⟨ks', h1, h2⟩ := h
  split at h2
  ·rename_i hc
   simp only [Option.some.injEq, KT.many.injEq] at h2
   subst h2
   exact ⟨h1, hc⟩
  ·cases h2
theorem Sw {P : Program} {k : TypeId} {q : Sc} (h : Pu P k = some (.one q)) : EW P k = some q := by
 unfold Pu at h
 split at h
 ·rename_i h1
  simp only [Option.some.injEq, KT.one.injEq] at h
  rw [h1, h]
 ·simp only [Option.bind_eq_some_iff] at h
  obtain ⟨ks', h1, h2⟩ := h
  split at h2 <;> cases h2
theorem I6 {ks : List Sc} {x y : V} {b : Bool} (h : Dx (.many ks) x y = some b) : ∃ xs ys, x = .agg xs ∧ y = .agg ys ∧ xs.length = ks.length ∧ ys.length = ks.length ∧ Ck ks xs ys = some b := by
 cases x <;> cases y <;> simp only [Dx] at h <;> try (cases h; done)
 rename_i xs ys
 split at h
 case isFalse => cases h
 rename_i hc
 exact ⟨xs, ys, rfl, rfl, hc.1, hc.2, h⟩
theorem Mg {P : Program} {k : TypeId} {kt : KT} (hk : Pu P k = some kt) {x y : V} (h : Dx kt x y = some true) : Az x = Az y := by
 cases kt with
 | one q =>
  cases q with
  | s =>
   cases x <;> cases y <;> simp only [Dx] at h <;> try (cases h; done)
   simp only [Option.some.injEq] at h
   simp only [Az, Cf, (Go.MapKept.bytes_beq _ _).1 h]
  | b => cases x <;> cases y <;> simp_all [Dx, Et, Az, Cf]
  | i => cases x <;> cases y <;> simp_all [Dx, Et, Az, Cf]
 | many ks =>
  obtain ⟨xs, ys, rfl, rfl, h1, h2, h3⟩ := I6 h
  simp only [Az]
  rw [K1 (Jn hk).2 h1 h2 h3]
def m6 (x : (V × V) × Nat) : MapEntry := { key := Az x.1.1, val := Az x.1.2, born := x.2 }
def dT (BJ : List (V × V)) (i : Nat) : List MapEntry := (BJ.zipIdx i).map m6
theorem SQ (BJ : List (V × V)) : (FV BJ).toList = dT BJ 0 := rfl
theorem Nq (e : V × V) (BJ : List (V × V)) (i : Nat) : dT (e :: BJ) i = m6 (e, i) :: dT BJ (i + 1) := rfl
section
variable {P : Program} {k : TypeId} {w : World}
theorem GL {q : Sc} (hk : EW P k = some q) (em : Bool) (n : Nat) (v : Value) : (Instr.checkKey em (n + 1) k v).run P w = .ok () w := by
 unfold EW at hk
 unfold Instr.checkKey
 split at hk <;> rename_i hu <;> first | cases hk | skip
 all_goals simp only [Sem.run_bind, run_underlying hu, Result.andThen_ok]
 all_goals cases v <;> simp
theorem HP (em : Bool) (m : Nat) (us : Array Value) : ∀ (fs : List Field) (n : Nat) (ks : List Sc), EG P n fs = some ks → n + ks.length ≤ us.size →
  (forIn (m := Sem) fs PUnit.unit (fun f _ => do
   if f.name ≠ "_" then
    Instr.checkKey em (m + 1) f.type (← part f.type us f.offset)
    pure (ForInStep.yield PUnit.unit)
   else pure (ForInStep.yield PUnit.unit))).run P w = .ok PUnit.unit w
 | [], n, ks, _, _ => by simp
 | f :: fs, n, ks, hf, hl => by
  simp only [EG] at hf
  split at hf <;> simp only [Option.bind_eq_some_iff, Option.map_eq_some_iff, reduceCtorEq] at hf
  rename_i hc
  obtain ⟨hn, ho, hz⟩ := hc
  obtain ⟨q, hk, ks', hks, rfl⟩ := hf
  simp only [List.length_cons] at hl
  have hu0 : us[n]? = some us[n] := Array.getElem?_eq_getElem (by omega)
  have hag := GU (P := P) (w := w) (Mc hk)
  have ih := HP em m us fs (n + 1) ks' hks (by omega)
  simp only [List.forIn_cons, Sem.run_bind, hn, ne_eq, not_false_eq_true, if_true, part, hag, Result.andThen_ok, Bool.false_eq_true, if_false, ho, hu0, Sem.run_pure, GL hk]
  exact ih
theorem II {ks : List Sc} (h : Im P k = some ks) : ∃ fs, P.underlying k = some (.struct fs) ∧ P.stoodInHeld k = false ∧ EG P 0 fs.toList = some ks := by
 unfold Im at h
 split at h
 case h_2 => cases h
 rename_i fs hu
 split at h
 case isFalse => cases h
 rename_i hg
 simp only [Bool.and_eq_true, Bool.not_eq_true'] at hg
 exact ⟨fs, hu, hg.1, h⟩
theorem MT {kt : KT} (hk : Pu P k = some kt) {key : V} (hself : Dx kt key key = some true) (em : Bool) : (Instr.checkKey em 10000 k (Az key)).run P w = .ok () w := by
 cases kt with
 | one q => exact GL (Sw hk) em 9999 _
 | many ks =>
  obtain ⟨hf, _⟩ := Jn hk
  obtain ⟨fs, hu, _, hff⟩ := II hf
  obtain ⟨xs, ys, e0, _, hc, _, _⟩ := I6 hself
  have e : Az key = .agg (xs.map Cf).toArray := by rw [e0]; rfl
  rw [e, show (10000 : Nat) = 9999 + 1 from rfl, Instr.checkKey]
  simp only [Sem.run_bind, run_underlying hu, Result.andThen_ok]
  rw [← Array.forIn_toList]
  have := HP (P := P) (w := w) em 9998 (xs.map Cf).toArray fs.toList 0 ks hff (by simp; omega)
  simp only [this]
  first | rfl | simp
theorem Yg {q : Sc} {d : TypeDesc} (hk : EW P k = some q) (hd : P.underlying k = some d) {x y : V} {b : Bool} (h : Dx (.one q) x y = some b) : Instr.sameNow d (Az x) (Az y) = some b := by
 unfold EW at hk
 rw [hd] at hk
 cases q <;> cases x <;> cases y <;> simp_all [Dx, Et, Az, Cf] <;> (split at hk <;> simp_all [Instr.sameNow])
theorem Mh {q : Sc} {d : TypeDesc} (hk : EW P k = some q) (hd : P.underlying k = some d) {key : V} : ∀ (BJ : List (V × V)) (i : Nat) (r : Option (Nat × V)), Ed (.one q) key BJ i = some r → Instr.findNow d (Az key) (dT BJ i) i = some (r.map fun x => (x.1, Az x.2))
 | [], i, r, h => by
  simp only [Ed, Option.some.injEq] at h
  subst h
  rfl
 | e :: BJ, i, r, h => by
  simp only [Ed, Option.bind_eq_some_iff] at h
  obtain ⟨b, hb, h⟩ := h
  have h1 := Yg hk hd hb
  rw [Nq]
  simp only [Instr.findNow, m6, h1]
  cases b with
  | true =>
   simp only [if_true, Option.some.injEq] at h
   subst h
   rfl
  | false =>
   simp only [Bool.false_eq_true, if_false] at h
   exact Mh hk hd BJ (i + 1) r h
theorem ZR (E : AZ) {ks : List Sc} (hf : Im P k = some ks) {x y : V} (hx : BS x = true) (hy : BS y = true) {b : Bool} (h : Dx (.many ks) x y = some b) : (Op.equal k (Az x) (Az y)).run P w = .ok b w := by
 obtain ⟨fs, hu, hst, hff⟩ := II hf
 obtain ⟨xs, ys, rfl, rfl, _, _, h⟩ := I6 h
 have hfo : P.fieldsOf k = fs := by simp only [Program.fieldsOf, hu]
 have hu2 : P.underlying k = some (.struct (P.fieldsOf k)) := by rw [hfo]; exact hu
 show (Op.equalIn 10000 k _ _).run P w = _
 simp only [Az]
 rw [run_equalIn_struct w 9999 k _ _ hu2 hst, hfo]
 exact IX (E := E) 9998 _ _ fs.toList 0 ks xs ys b hff (by simpa using En xs hx) (by simpa using En ys hy) h
theorem Kv (E : AZ) {ks : List Sc} (hf : Im P k = some ks) {key : V} (hkey : BS key = true) : ∀ (BJ : List (V × V)) (i : Nat) (r : Option (Nat × V)), (∀ x ∈ BJ, BS x.1 = true ∧ BS x.2 = true) → Ed (.many ks) key BJ i = some r →
  (Instr.findAsking k (Az key) (dT BJ i) i).run P w = .ok (r.map fun x => (x.1, Az x.2)) w
 | [], i, r, _, h => by
  simp only [Ed, Option.some.injEq] at h
  subst h
  simp [dT, Instr.findAsking]
 | e :: BJ, i, r, hp, h => by
  simp only [Ed, Option.bind_eq_some_iff] at h
  obtain ⟨b, hb, h⟩ := h
  have h1 := ZR E hf (w := w) hkey (hp e (List.mem_cons_self ..)).1 hb
  rw [Nq]
  simp only [Instr.findAsking, m6, Sem.run_bind, h1, Result.andThen_ok]
  cases b with
  | true =>
   simp only [if_true, Option.some.injEq] at h
   subst h
   simp
  | false =>
   simp only [Bool.false_eq_true, if_false] at h ⊢
   exact Kv E hf hkey BJ (i + 1) r (fun x hx => hp x (List.mem_cons_of_mem _ hx)) h
theorem PW (E : AZ) {kt : KT} (hk : Pu P k = some kt) {key : V} (hkey : BS key = true) {BJ : List (V × V)} (hp : ∀ x ∈ BJ, BS x.1 = true ∧ BS x.2 = true) {r : Option (Nat × V)} (h : Ed kt key BJ 0 = some r) :
  (Instr.findKey k (Az key) (FV BJ).toList).run P w = .ok (r.map fun x => (x.1, Az x.2)) w := by
 rw [SQ]
 cases kt with
 | one q =>
  have hs := Sw hk
  have : ∃ d, P.underlying k = some d := by
   unfold EW at hs
   split at hs <;> rename_i hu <;> first | exact ⟨_, hu⟩ | cases hs
  obtain ⟨d, hd⟩ := this
  exact Go.MapKept.run_findKey hd (Mh hs hd BJ 0 r h)
 | many ks =>
  obtain ⟨hf, _⟩ := Jn hk
  obtain ⟨fs, hu, _, _⟩ := II hf
  cases BJ with
  | nil =>
   simp only [Ed, Option.some.injEq] at h
   subst h
   exact Go.MapKept.run_findKey hu rfl
  | cons e BJ =>
   have hn : Instr.findNow (.struct fs) (Az key) (dT (e :: BJ) 0) 0 = none := by
    rw [Nq]
    simp only [Instr.findNow, Instr.sameNow]
   have := Kv E hf (w := w) hkey (e :: BJ) 0 r hp h
   simp only [Instr.findKey, Sem.run_bind, run_underlying hu, Result.andThen_ok, hn, this]
theorem TZ {α : Type} : ∀ (l : List α), ∀ x ∈ l.zip l, x.1 = x.2 ∧ x.1 ∈ l
 | [], x, h => by simp at h
 | y :: l, x, h => by
  simp only [List.zip_cons_cons, List.mem_cons] at h
  rcases h with rfl | h
  ·exact ⟨rfl, List.mem_cons_self ..⟩
  ·obtain ⟨h1, h2⟩ := TZ l x h
   exact ⟨h1, List.mem_cons_of_mem _ h2⟩
theorem N3 (n : Nat) {v : V} (h : (match v with | .int .. | .bool _ | .str _ => true | _ => false) = true) : Instr.sameBits n (Cf v) (Cf v) = true := by
 cases v <;> simp_all [Cf, Instr.sameBits]
 exact (Go.MapKept.bytes_beq _ _).2 rfl
theorem PX {v : V} (h : BS v = true) : Instr.sameBits 10000 (Az v) (Az v) = true := by
 cases v with
 | agg cs =>
  simp only [Az]
  rw [show (10000 : Nat) = 9999 + 1 from rfl, Instr.sameBits]
  simp only [beq_self_eq_true, Bool.true_and, List.all_eq_true]
  intro x hx
  obtain ⟨h1, h2⟩ := TZ _ x hx
  obtain ⟨x1, x2⟩ := x
  simp only at h1
  subst h1
  simp only [List.mem_map] at h2
  obtain ⟨v, hv, rfl⟩ := h2
  unfold BS at h
  rw [List.all_eq_true] at h
  exact N3 9999 (h v hv)
 | int _ _ => simp [Az, Cf, Instr.sameBits]
 | bool _ => simp [Az, Cf, Instr.sameBits]
 | str _ => simp only [Az, Cf, Instr.sameBits]; exact (Go.MapKept.bytes_beq _ _).2 rfl
 | _ => simp [BS] at h
theorem Qb {v : V} (h : BS v = true) : (Instr.keyThatStays (Az v) (Az v)).run P w = .ok (Az v) w := by
 simp only [Instr.keyThatStays, PX h, if_true, Sem.run_pure]
theorem Hl {kt : KT} {key : V} : ∀ (BJ : List (V × V)) (i j : Nat) (v : V), Ed kt key BJ i = some (some (j, v)) → ∃ n kk, j = i + n ∧ BJ[n]? = some (kk, v) ∧ Dx kt key kk = some true
 | [], i, j, v, h => by simp [Ed] at h
 | e :: BJ, i, j, v, h => by
  simp only [Ed, Option.bind_eq_some_iff] at h
  obtain ⟨b, hb, h⟩ := h
  cases b with
  | true =>
   simp only [if_true, Option.some.injEq, Prod.mk.injEq] at h
   obtain ⟨rfl, rfl⟩ := h
   exact ⟨0, e.1, rfl, rfl, hb⟩
  | false =>
   simp only [Bool.false_eq_true, if_false] at h
   obtain ⟨n, kk, h1, h2, h3⟩ := Hl BJ (i + 1) j v h
   exact ⟨n + 1, kk, by omega, h2, h3⟩
theorem Gh (BJ : List (V × V)) (i : Nat) : (FV BJ)[i]? = (BJ[i]?).map fun x => { key := Az x.1, val := Az x.2, born := i } := by
  unfold FV
  rw [List.getElem?_toArray, List.getElem?_map, List.getElem?_zipIdx]
  cases BJ[i]? <;> simp
theorem Li (BJ : List (V × V)) : (FV BJ).size = BJ.length := by simp [FV]
theorem QE (BJ : List (V × V)) (k v : V) : (FV BJ).push { key := Az k, val := Az v, born := BJ.length } = FV (BJ ++ [(k, v)]) := by
  apply Array.ext_getElem?
  intro i
  rw [Array.getElem?_push, Li, Gh, Gh]
  by_cases h : i = BJ.length
  · subst h; simp
  · rw [if_neg h]
    rcases Nat.lt_or_ge i BJ.length with hl | hl
    · rw [List.getElem?_append_left hl]
    · rw [List.getElem?_eq_none hl, List.getElem?_eq_none (by simp; omega)]
theorem Np (BJ : List (V × V)) (i : Nat) (k v : V) (f : MapEntry → MapEntry) (h : ∀ x, BJ[i]? = some x → f { key := Az x.1, val := Az x.2, born := i } = { key := Az k, val := Az v, born := i }) : (FV BJ).modify i f = FV (BJ.set i (k, v)) := by
  apply Array.ext_getElem?
  intro j
  rw [Array.getElem?_modify, Gh, Gh, List.getElem?_set]
  by_cases hij : i = j
  · subst hij
    rw [if_pos rfl, if_pos rfl]
    cases hx : BJ[i]? with
    | none =>
      rw [if_neg]
      · rfl
      · intro hl
        rw [List.getElem?_eq_getElem hl] at hx
        cases hx
    | some x =>
      rw [if_pos (List.getElem?_eq_some_iff.1 hx).1]
      simp only [Option.map_some, h x hx]
  · rw [if_neg hij, if_neg hij]
end
structure ES (E E' : AZ) : Prop where
 heap : E'.w.heap = E.w.heap.push (.map #[] 0)
 os : E'.w.os = E.w.os
 tape : E'.w.tape = E.w.tape
 output : E'.w.output = E.w.output
 CI : ∀ b, E'.φ b = if b = E.H.length then E.w.heap.size else E.φ b
 H : E'.H = E.H ++ [.mp []]
 lk : E'.lk = E.lk
 n : E'.n = E.n + 1
 m : E'.m = E.m
 Bb : E'.Bb = E.Bb
 n0 : E.n = E.H.length
theorem ES.Bm {E E' : AZ} (h : ES E E') (b : Nat) : E'.H[b]? = if b = E.H.length then some (.mp []) else E.H[b]? := by
 rw [h.H]
 by_cases hb : b = E.H.length
 ·subst hb; simp
 ·rw [if_neg hb]
  rcases Nat.lt_or_ge b E.H.length with hl | hl
  ·rw [List.getElem?_append_left hl]
  ·rw [List.getElem?_eq_none (by simp; omega), List.getElem?_eq_none hl]
theorem ES.CV {E E' : AZ} (h : ES E E') (g : Nat) : E'.w.heap[g]? = if g = E.w.heap.size then some (.map #[] 0) else E.w.heap[g]? := by
 rw [h.heap, Array.getElem?_push]
theorem ES.Ch {E E' : AZ} (h : ES E E') : Fq E E' where
 lk := h.lk
 os := h.os
 tape := h.tape
 output := h.output
 size := by rw [h.heap]; simp
 len := by rw [h.n]; omega
 mm := h.m
 cell := by
  intro g i u hc _
  have hg := GM hc
  simp only [World.cell?, h.CV g] at hc ⊢
  rw [if_neg (by simp at hg; omega)]
  exact hc
 block := by
  intro g hg _
  rw [h.CV g, if_neg (by omega)]
 mono := by
  intro lv g i _ hu
  rcases hu with hu | hu
  ·exact .inl (.inl (by rw [h.Bb] at hu; exact hu))
  cases lv with
  | some lv =>
   obtain ⟨b, h1, h2, h3⟩ := hu
   rw [h.lk] at h2
   rw [h.Bm b] at h3
   rw [h.CI b] at h1
   by_cases hb : b = E.H.length
   ·rw [if_pos hb] at h1; right; omega
   ·rw [if_neg hb] at h1 h3
    exact .inl (.inr ⟨b, h1, h2, h3⟩)
  | none =>
   obtain ⟨b, h1, h3⟩ := hu
   rw [h.Bm b] at h3
   rw [h.CI b] at h1
   by_cases hb : b = E.H.length
   ·rw [if_pos hb] at h1; right; omega
   ·rw [if_neg hb] at h1 h3
    exact .inl (.inr ⟨b, h1, h3⟩)
 CI := by
  intro b hb hn
  have : b ≠ E.H.length := by have := h.n0; omega
  refine ⟨by rw [h.CI b, if_neg this], fun l n sz => ?_⟩
  rw [h.Bm b, if_neg this]
  exact hn l n sz
 cells := by
  intro b hb hn sz cs
  have : b ≠ E.H.length := by have := h.n0; omega
  rw [h.Bm b, if_neg this]
  exact hn sz cs
 Br := by
  intro b l n' sz' hb hB
  have hne : b ≠ E.H.length := by have := h.n0; omega
  rw [h.Bm b, if_neg hne] at hB
  refine ⟨n', hB, Nat.le_refl _, fun _ => ⟨by rw [h.CI b, if_neg hne], fun c' t' hc => ⟨c', ?_, rfl⟩⟩⟩
  rw [h.CV]
  split
  ·rename_i he
   have := Array.getElem?_eq_some_iff.1 hc |>.1
   omega
  ·exact hc
 fresh := by
  intro b hl
  rw [h.Bm b] at hl
  rw [h.CI b]
  by_cases hb : b = E.H.length
  ·rw [if_pos hb]; exact .inr (Nat.le_refl _)
  ·rw [if_neg hb] at hl ⊢; exact .inl ⟨rfl, hl⟩
 Bb := fun g hg => by rw [h.Bb]; exact hg
 Hr := fun g hg => .inl (by rw [h.Bb] at hg; exact hg)
 H5 := fun g _ hl => by rw [h.CV g, if_neg (by omega)]
theorem ES.rel {E E' : AZ} (h : ES E E') (hh : CJ E) : CJ E' where
 cells := by
  intro b sz cs hB
  rw [h.Bm b] at hB
  rw [h.CI b]
  split at hB
  ·cases hB
  ·rename_i he
   obtain ⟨c', t', h1, h2, h3⟩ := hh.cells b sz cs hB
   rw [if_neg he, h.CV, if_neg (by have := Array.getElem?_eq_some_iff.1 h1 |>.1; omega)]
   exact ⟨c', t', h1, h2, fun i v hv => let ⟨u, h4, h5⟩ := h3 i v hv; ⟨u, h4, h.Ch.rep hh v u h5⟩⟩
 dm := by rw [h.m, h.lk]; exact hh.dm
 lvl := by
  intro b l n sz hB
  rw [h.Bm b] at hB
  rw [h.lk]
  split at hB
  ·cases hB
  ·exact hh.lvl b l n sz hB
 Br := by
  intro b l n sz hB
  rw [h.Bm b] at hB
  rw [h.CI b]
  split at hB
  ·cases hB
  ·rename_i he
   obtain ⟨c', t', h1, h2⟩ := hh.Br b l n sz hB
   rw [if_neg he, h.CV, if_neg (by have := Array.getElem?_eq_some_iff.1 h1 |>.1; omega)]
   exact ⟨c', t', h1, h2⟩
 maps := by
  intro b BJ hB
  rw [h.Bm b] at hB
  rw [h.CI b]
  split at hB
  ·rename_i he
   simp only [Option.some.injEq, Bp.mp.injEq] at hB
   subst hB
   rw [if_pos he, h.CV, if_pos rfl]
   exact ⟨rfl, fun x hx => by cases hx⟩
  ·rename_i he
   obtain ⟨h1, h2⟩ := hh.maps b BJ hB
   rw [if_neg he, h.CV, if_neg (by have := Array.getElem?_eq_some_iff.1 h1 |>.1; omega)]
   exact ⟨h1, h2⟩
 inj := by
  intro b b' h1 h2 he
  rw [h.Bm] at h1 h2
  rw [h.CI, h.CI] at he
  by_cases hb : b = E.H.length <;> by_cases hb' : b' = E.H.length
  ·omega
  ·rw [if_pos hb, if_neg hb'] at he
   rw [if_neg hb'] at h2
   have := Ek hh h2
   omega
  ·rw [if_neg hb, if_pos hb'] at he
   rw [if_neg hb] at h1
   have := Ek hh h1
   omega
  ·rw [if_neg hb, if_neg hb'] at he
   rw [if_neg hb] at h1
   rw [if_neg hb'] at h2
   exact hh.inj b b' h1 h2 he
 Bb := fun g hg => by
  rw [h.Bb] at hg
  obtain ⟨h1, h2⟩ := hh.Bb g hg
  refine ⟨by rw [h.heap, Array.size_push]; omega, fun b hl => ?_⟩
  rw [h.Bm] at hl
  rw [h.CI]
  by_cases hb : b = E.H.length
  ·rw [if_pos hb]; omega
  ·rw [if_neg hb] at hl ⊢; exact h2 b hl
theorem ES.DB {E E' : AZ} (h : ES E E') {base nb d : Nat} (hb : base ≤ E.n) (hnb : nb ≤ E.n) (hd : d ≤ E.m) (hf : D4 E base nb d) (hh : CJ E) : D4 E' base nb d := by
 intro b sz cs hlt hB c' t' hc i v u hv hu
 have hne : b ≠ E.H.length := by have := h.n0; omega
 rw [h.Bm, if_neg hne] at hB
 rw [h.CI, if_neg hne, h.CV] at hc
 split at hc
 ·rename_i he
  have := Ek hh (b := b) (by rw [hB]; trivial)
  omega
 ·exact (h.Ch.shrink hh hnb hd).rep v u (hf b sz cs hlt hB c' t' hc i v u hv hu)
structure Gd (E E' : AZ) (b : Nat) (BJ kvs' : List (V × V)) : Prop where
 heap : ∀ g, E'.w.heap[g]? = if g = E.φ b then some (.map (FV kvs') kvs'.length) else E.w.heap[g]?
 size : E'.w.heap.size = E.w.heap.size
 os : E'.w.os = E.w.os
 tape : E'.w.tape = E.w.tape
 output : E'.w.output = E.w.output
 CI : E'.φ = E.φ
 H : E'.H = E.H.set b (.mp kvs')
 lk : E'.lk = E.lk
 n : E'.n = E.n
 m : E'.m = E.m
 Bb : E'.Bb = E.Bb
 V7 : E.H[b]? = some (.mp BJ)
 row : E.w.heap[E.φ b]? = some (.map (FV BJ) BJ.length)
 Mo : E.φ b ∉ E.Bb
 free : AV E.lk b = true
theorem Gd.Bm {E E' : AZ} {b : Nat} {BJ kvs' : List (V × V)} (h : Gd E E' b BJ kvs') (x : Nat) : E'.H[x]? = if b = x then some (.mp kvs') else E.H[x]? := by
 rw [h.H, Ae]
 have := (List.getElem?_eq_some_iff.1 h.V7).1
 simp [this]
theorem Gd.Ch {E E' : AZ} {b : Nat} {BJ kvs' : List (V × V)} (h : Gd E E' b BJ kvs') : Fq E E' where
 lk := h.lk
 os := h.os
 tape := h.tape
 output := h.output
 size := by rw [h.size]; exact Nat.le_refl _
 len := by rw [h.n]; exact Nat.le_refl _
 mm := h.m
 cell := by
  intro g i u hc _
  have hne : g ≠ E.φ b := by
   rintro rfl
   simp only [World.cell?, h.row] at hc
   cases hc
  simp only [World.cell?, h.heap g, if_neg hne] at hc ⊢
  exact hc
 block := by
  intro g hg hu
  rw [h.heap g, if_neg]
  rintro rfl
  refine hu 0 (.inr ⟨b, rfl, Eh _ h.free, ?_⟩)
  rw [h.V7]
  trivial
 mono := by
  intro lv g i _ hu
  rcases hu with hu | hu
  ·exact .inl (.inl (by rw [h.Bb] at hu; exact hu))
  cases lv with
  | some lv =>
   obtain ⟨x, h1, h2, h3⟩ := hu
   rw [h.lk] at h2
   rw [h.CI] at h1
   rw [h.Bm x] at h3
   refine .inl (.inr ⟨x, h1, h2, ?_⟩)
   by_cases hb : b = x
   ·subst hb; rw [h.V7]; trivial
   ·rw [if_neg hb] at h3; exact h3
  | none =>
   obtain ⟨x, h1, h3⟩ := hu
   rw [h.CI] at h1
   rw [h.Bm x] at h3
   refine .inl (.inr ⟨x, h1, ?_⟩)
   by_cases hb : b = x
   ·subst hb; rw [h.V7]; trivial
   ·rw [if_neg hb] at h3; exact h3
 CI := by
  intro x hx hn
  refine ⟨by rw [h.CI], fun l n sz => ?_⟩
  rw [h.Bm x]
  split
  ·simp
  ·exact hn l n sz
 cells := by
  intro x hx hn sz cs
  rw [h.Bm x]
  split
  ·simp
  ·exact hn sz cs
 Br := by
  intro x l n' sz' hx hB
  rw [h.Bm x] at hB
  by_cases hb : b = x
  ·rw [if_pos hb] at hB; cases hB
  ·rw [if_neg hb] at hB
   refine ⟨n', hB, Nat.le_refl _, fun _ => ⟨by rw [h.CI], fun c2 t2 hc => ⟨c2, ?_, rfl⟩⟩⟩
   rw [h.heap, if_neg]
   ·exact hc
   ·intro e
    rw [e, h.row] at hc
    cases hc
 fresh := by
  intro x hl
  rw [h.Bm x] at hl
  rw [h.CI]
  refine .inl ⟨rfl, ?_⟩
  by_cases hb : b = x
  ·subst hb; rw [h.V7]; trivial
  ·rw [if_neg hb] at hl; exact hl
 Bb := fun g hg => by rw [h.Bb]; exact hg
 Hr := fun g hg => .inl (by rw [h.Bb] at hg; exact hg)
 H5 := fun g hg _ => by rw [h.heap g, if_neg (fun e => h.Mo (by rw [← e]; exact hg))]
theorem Gd.rel {E E' : AZ} {b : Nat} {BJ kvs' : List (V × V)} (h : Gd E E' b BJ kvs') (hh : CJ E) (hp : ∀ x ∈ kvs', BS x.1 = true ∧ BS x.2 = true) : CJ E' where
 cells := by
  intro x sz cs hB
  rw [h.Bm x] at hB
  rw [h.CI]
  by_cases hx : b = x
  ·rw [if_pos hx] at hB; cases hB
  ·rw [if_neg hx] at hB
   obtain ⟨c2, t2, h1, h2, h3⟩ := hh.cells x sz cs hB
   rw [h.heap, if_neg (by intro e; rw [e, h.row] at h1; cases h1)]
   exact ⟨c2, t2, h1, h2, fun i v hv => let ⟨u, h4, h5⟩ := h3 i v hv; ⟨u, h4, h.Ch.rep hh v u h5⟩⟩
 dm := by rw [h.m, h.lk]; exact hh.dm
 lvl := by
  intro x l n sz hB
  rw [h.Bm x] at hB
  rw [h.lk]
  by_cases hx : b = x
  ·rw [if_pos hx] at hB; cases hB
  ·rw [if_neg hx] at hB
   exact hh.lvl x l n sz hB
 Br := by
  intro x l n sz hB
  rw [h.Bm x] at hB
  rw [h.CI]
  by_cases hx : b = x
  ·rw [if_pos hx] at hB; cases hB
  ·rw [if_neg hx] at hB
   obtain ⟨c2, t2, h1, h2⟩ := hh.Br x l n sz hB
   rw [h.heap, if_neg (by intro e; rw [e, h.row] at h1; cases h1)]
   exact ⟨c2, t2, h1, h2⟩
 maps := by
  intro x ks hB
  rw [h.Bm x] at hB
  rw [h.CI]
  by_cases hx : b = x
  ·subst hx
   rw [if_pos rfl] at hB
   simp only [Option.some.injEq, Bp.mp.injEq] at hB
   subst hB
   rw [h.heap, if_pos rfl]
   exact ⟨rfl, hp⟩
  ·rw [if_neg hx] at hB
   obtain ⟨h1, h2⟩ := hh.maps x ks hB
   have hne : E.φ x ≠ E.φ b := fun e => hx (hh.inj b x (by rw [h.V7]; trivial) (by rw [hB]; trivial) e.symm)
   rw [h.heap, if_neg hne]
   exact ⟨h1, h2⟩
 inj := by
  intro x y h1 h2 he
  rw [h.Bm] at h1 h2
  rw [h.CI] at he
  refine hh.inj x y ?_ ?_ he
  ·by_cases hx : b = x
   ·subst hx; rw [h.V7]; trivial
   ·rw [if_neg hx] at h1; exact h1
  ·by_cases hx : b = y
   ·subst hx; rw [h.V7]; trivial
   ·rw [if_neg hx] at h2; exact h2
 Bb := fun g hg => by
  rw [h.Bb] at hg
  obtain ⟨h1, h2⟩ := hh.Bb g hg
  refine ⟨by rw [h.size]; exact h1, fun x hl => ?_⟩
  rw [h.Bm] at hl
  rw [h.CI]
  by_cases hx : b = x
  ·subst hx; exact fun e => h.Mo (e ▸ hg)
  ·rw [if_neg hx] at hl; exact h2 x hl
theorem Gd.DB {E E' : AZ} {b : Nat} {BJ kvs' : List (V × V)} (h : Gd E E' b BJ kvs') {base nb d : Nat} (hnb : nb ≤ E.n) (hd : d ≤ E.m) (hf : D4 E base nb d) (hh : CJ E) : D4 E' base nb d := by
 intro x sz cs hlt hB c2 t2 hc i v u hv hu
 rw [h.Bm] at hB
 by_cases hx : b = x
 ·rw [if_pos hx] at hB; cases hB
 ·rw [if_neg hx] at hB
  rw [h.CI, h.heap] at hc
  split at hc
  ·cases hc
  ·exact (h.Ch.shrink hh hnb hd).rep v u (hf x sz cs hlt hB c2 t2 hc i v u hv hu)
section
variable {c : Cx} {E : AZ} {S : St} {a : Act} {o : Oper}
theorem ES.after (hs : Cc c E S a) {E' : AZ} (h : ES E E') (hr : CJ E') : B8 c E E' (S.H ++ [.mp []]) where
 H := by rw [h.H, hs.H]
 n := by rw [h.n, hs.n]; simp
 m := h.m
 Ch := h.Ch
 heap := hr
 Hn := fun _ base nb d hb hn hd hf => h.DB (by have := hs.base; have := hs.n; omega) hn hd hf hs.heap
 IK := fun _ base d hb hd hf => (h.DB (by have := hs.base; have := hs.n; omega) (Nat.le_refl _) hd hf hs.heap).up h.Ch.len
 kept := fun b hb _ => by rw [hs.H, List.getElem?_append_left (by have := hs.base; omega)]
theorem Gd.after (hs : Cc c E S a) {E' : AZ} {b : Nat} {BJ kvs' : List (V × V)} (h : Gd E E' b BJ kvs') (hm : c.BR b = true) (hr : CJ E') : B8 c E E' (S.H.set b (.mp kvs')) where
 H := by rw [h.H, hs.H]
 n := by rw [h.n, hs.n]; simp
 m := h.m
 Ch := h.Ch
 heap := hr
 Hn := fun _ base nb d hb hn hd hf => h.DB hn hd hf hs.heap
 IK := fun _ base d hb hd hf => (h.DB (Nat.le_refl _) hd hf hs.heap).up h.Ch.len
 kept := fun x hx hl => by
  rw [hs.H, Ae, if_neg]
  rintro ⟨rfl, _⟩
  unfold Cx.BR at hm
  simp only [Bool.or_eq_true, decide_eq_true_eq] at hm
  rcases hm with hm | hm
  ·omega
  ·rw [hm] at hl; cases hl
theorem Kb (E : AZ) : AA E Ca undef := by
 simp only [Ca, AA]
 exact ⟨#[], rfl, by simp only [AP]⟩
theorem Pw (hs : Cc c E S a) {t : TypeId} (ho : o.op = .makeMap t none) : Gc c E a o (.FF S.H.length) (S.H ++ [.mp []]) := by
  have hp : ES E { w := E.w.alloc (.map #[] 0), φ := fun b => if b = E.H.length then E.w.heap.size else E.φ b, H := E.H ++ [.mp []], lk := E.lk, n := E.n + 1, m := E.m, Bb := E.Bb } :=
    ⟨rfl, rfl, rfl, rfl, fun _ => rfl, rfl, rfl, rfl, rfl, rfl, by rw [hs.n, hs.H]⟩
  refine ⟨_, hp.after hs (hp.rel hs.heap), .inl ⟨.map (some E.w.heap.size), ?_, ?_⟩⟩
  · simp only [execOp, ho]; rfl
  · simp only [AA]
    rw [hs.H, hs.n]
    refine ⟨by omega, by rw [if_pos rfl], fun l n z => ?_⟩
    simp
theorem NR (hs : Cc c E S a) {b : Nat} {BJ : List (V × V)} (hb : S.H[b]? = some (.mp BJ)) {u : Value} (hr : AA E (.FF b) u) : u = .map (some (E.φ b)) ∧ E.w.heap[E.φ b]? = some (.map (FV BJ) BJ.length) ∧ ∀ x ∈ BJ, BS x.1 = true ∧ BS x.2 = true := by
 simp only [AA] at hr
 have := hs.heap.maps b BJ (by rw [hs.H]; exact hb)
 exact ⟨hr.2.1, this.1, this.2⟩
theorem Jo {P : Program} {t : TypeId} {q : KT × TypeId} (h : Px P t = some q) : ∃ k, P.underlying t = some (.map k q.2) ∧ Pu P k = some q.1 := by
 unfold Px at h
 split at h
 case h_2 => cases h
 rename_i k e hu
 simp only [Option.map_eq_some_iff] at h
 obtain ⟨kt, h1, rfl⟩ := h
 exact ⟨k, hu, h1⟩
theorem Qn {P : Program} {e : TypeId} {z : V} (h : Pg P e = some z) (w : World) : ∃ x, (zeroValue e).run P w = .ok x w ∧ E8 x = some z := by
 unfold Pg at h
 simp only [Option.bind_eq_some_iff] at h
 obtain ⟨x, ⟨i, h1, h2⟩, h3⟩ := h
 exact ⟨x, by simp [zeroValue, typeInfo, h1, h2], h3⟩
theorem Rd (hs : Cc c E S a) {t : TypeId} {x k : Operand} {ok : Bool} {m kv v : V} (ho : o.op = .lookup t x k ok) (hx : ev S.T x = some m) (hk : ev S.T k = some kv) (h : Ip c.P t S.H m kv ok = some v) : DG c E a o v := by
 have r1 := B5 hs x _ hx
 have r2 := B5 hs k _ hk
 unfold Ip at h
 split at h
 case h_2 => cases h
 rename_i b
 split at h
 case h_2 => cases h
 rename_i BJ hb
 simp only [Option.bind_eq_some_iff] at h
 obtain ⟨q, hq, h⟩ := h
 split at h
 case isFalse => cases h
 rename_i hc
 simp only [Option.bind_eq_some_iff] at h
 obtain ⟨r, hr, h⟩ := h
 obtain ⟨e1, e2, e3⟩ := NR hs hb r1
 obtain ⟨kt, hu, hkt⟩ := Jo hq
 have ek := GZ hc.1 r2
 have hchk := MT (P := c.P) (w := E.w) hkt hc.2 (FV BJ).isEmpty
 have hfind := PW (P := c.P) (w := E.w) E hkt hc.1 e3 hr
 cases r with
 | some r =>
  obtain ⟨j, vv⟩ := r
  simp only [Option.some.injEq] at h
  obtain ⟨n, kk, h1, h2, h3⟩ := Hl BJ 0 j vv hr
  have hpl := (e3 _ (List.mem_of_getElem? h2)).2
  refine ⟨if ok then .tuple #[Az vv, .bool true] else Az vv, ?_, ?_⟩
  ·simp only [execOp, ho, Instr.lookup, e1, ek, Sem.run_bind, run_underlying hu, Result.andThen_ok, Go.MapKept.run_getObj_map e2, Sem.run_pure, hchk, hfind, Option.map_some]
  ·subst h
   cases ok with
   | true =>
    simp only [if_true, AA]
    refine ⟨_, rfl, ?_⟩
    simp only [AP, AA]
    exact ⟨_, _, rfl, Jq E hpl, _, _, rfl, rfl, rfl⟩
   | false => exact Jq E hpl
 | none =>
  simp only [Option.map_eq_some_iff] at h
  obtain ⟨z, hz, rfl⟩ := h
  obtain ⟨zx, hzr, hzo⟩ := Qn hz E.w
  refine ⟨if ok then .tuple #[zx, .bool false] else zx, ?_, ?_⟩
  ·simp only [execOp, ho, Instr.lookup, e1, ek, Sem.run_bind, run_underlying hu, Result.andThen_ok, Go.MapKept.run_getObj_map e2, Sem.run_pure, hchk, hfind, Option.map_none, hzr]
  ·have hrz := HO E zx z hzo
   cases ok with
   | true =>
    simp only [if_true, AA]
    refine ⟨_, rfl, ?_⟩
    simp only [AP, AA]
    exact ⟨_, _, rfl, hrz, _, _, rfl, rfl, rfl⟩
   | false => exact hrz
def AZ.Py (E : AZ) (b : Nat) (kvs' : List (V × V)) : AZ := { E with w := { E.w with heap := E.w.heap.setIfInBounds (E.φ b) (.map (FV kvs') kvs'.length) }, H := E.H.set b (.mp kvs') }
theorem gL {b : Nat} {BJ kvs' : List (V × V)} (hrow : E.w.heap[E.φ b]? = some (.map (FV BJ) BJ.length)) (hb : E.H[b]? = some (.mp BJ)) (hfree : AV E.lk b = true) (hnh : E.φ b ∉ E.Bb) : Gd E (E.Py b kvs') b BJ kvs' where
 heap := fun g => by
  show (E.w.heap.setIfInBounds (E.φ b) _)[g]? = _
  rw [Array.getElem?_setIfInBounds]
  have := (Array.getElem?_eq_some_iff.1 hrow).1
  by_cases hg : E.φ b = g
  ·rw [if_pos hg, if_pos hg.symm, if_pos (by omega)]
  ·rw [if_neg hg, if_neg (fun e => hg e.symm)]
 size := by show (E.w.heap.setIfInBounds _ _).size = _; simp
 os := rfl
 tape := rfl
 output := rfl
 CI := rfl
 H := rfl
 lk := rfl
 n := rfl
 m := rfl
 V7 := hb
 Bb := rfl
 Mo := hnh
 row := hrow
 free := hfree
theorem La (hs : Cc c E S a) {b : Nat} {BJ kvs' : List (V × V)} (hb : S.H[b]? = some (.mp BJ)) (hrow : E.w.heap[E.φ b]? = some (.map (FV BJ) BJ.length)) (hm : c.BR b = true) (hp : ∀ x ∈ kvs', BS x.1 = true ∧ BS x.2 = true) : B8 c E (E.Py b kvs') (S.H.set b (.mp kvs')) := by
 have hw := gL (kvs' := kvs') hrow (by rw [hs.H]; exact hb) (by rw [hs.lk]; exact He hs.Dk hm) (fun e => (hs.heap.Bb _ e).2 b (by rw [hs.H, hb]; trivial) rfl)
 exact hw.after hs hm (hw.rel hs.heap hp)
theorem Ro (hs : Cc c E S a) {t : TypeId} {x k y : Operand} {m kv v : V} {H' : A3} (ho : o.op = .mapUpdate t x k y) (hx : ev S.T x = some m) (hk : ev S.T k = some kv) (hy : ev S.T y = some v) (h : V5 c t S.H m kv v = some H') : Gc c E a o Ca H' := by
  have r1 := B5 hs x _ hx
  have r2 := B5 hs k _ hk
  have r3 := B5 hs y _ hy
  unfold V5 at h
  split at h
  case h_2 => cases h
  rename_i b
  split at h
  case h_2 => cases h
  rename_i BJ hb
  simp only [Option.bind_eq_some_iff] at h
  obtain ⟨q, hq, h⟩ := h
  split at h
  case isFalse => cases h
  rename_i hc
  obtain ⟨c1, c2, c3, c4⟩ := hc
  simp only [Option.map_eq_some_iff] at h
  obtain ⟨r, hr, h⟩ := h
  obtain ⟨e1, e2, e3⟩ := NR hs hb r1
  obtain ⟨kt, hu, hkt⟩ := Jo hq
  have ek := GZ c1 r2
  have ev' := GZ c2 r3
  have hchk := MT (P := c.P) (w := E.w) hkt c3 false
  have hfind := PW (P := c.P) (w := E.w) E hkt c1 e3 hr
  have hmem : ∀ (l : List (V × V)), (∀ x ∈ l, x ∈ BJ ∨ x = (kv, v)) → ∀ x ∈ l, BS x.1 = true ∧ BS x.2 = true := fun l hl x hx => by
    rcases hl x hx with h | rfl
    · exact e3 x h
    · exact ⟨c1, c2⟩
  cases r with
  | some r =>
    obtain ⟨j, vv⟩ := r
    simp only [] at h
    subst h
    obtain ⟨n, kk, h1, h2, h3⟩ := Hl BJ 0 j vv hr
    have hj : j = n := by omega
    subst hj
    have hkk := Mg hkt h3
    refine ⟨_, La hs hb e2 c4 (hmem _ fun x hx => ?_), .inr ⟨?_, Kb _⟩⟩
    · rcases List.mem_or_eq_of_mem_set hx with h | h
      · exact .inl h
      · exact .inr h
    · have hst := Qb (P := c.P) (w := E.w) c1
      have hes : (FV BJ)[j]? = some { key := Az kv, val := Az vv, born := j } := by rw [Gh, h2, hkk]; rfl
      have hset := Np BJ j kv v (fun e => { e with key := Az kv, val := Az v }) (fun _ _ => rfl)
      simp only [execOp, ho, Instr.mapUpdate, e1, ek, ev', Sem.run_bind, run_underlying hu, Result.andThen_ok, Go.MapKept.run_getObj_map e2, Sem.run_pure, hchk, hfind, Option.map_some, hes, Option.getD_some, hst, Go.MapKept.run_setObj_map _ e2]
      rw [hset]
      show _ = Result.ok _ ({ E.w with heap := E.w.heap.setIfInBounds (E.φ b) (.map (FV (BJ.set j (kv, v))) (BJ.set j (kv, v)).length) })
      rw [List.length_set]
  | none =>
    simp only [] at h
    subst h
    refine ⟨_, La hs hb e2 c4 (hmem _ fun x hx => ?_), .inr ⟨?_, Kb _⟩⟩
    · rcases List.mem_append.1 hx with h | h
      · exact .inl h
      · exact .inr (List.mem_singleton.1 h)
    · have hpush := QE BJ kv v
      simp only [execOp, ho, Instr.mapUpdate, e1, ek, ev', Sem.run_bind, run_underlying hu, Result.andThen_ok, Go.MapKept.run_getObj_map e2, Sem.run_pure, hchk, hfind, Option.map_none, Go.MapKept.run_setObj_map _ e2]
      rw [hpush]
      show _ = Result.ok _ ({ E.w with heap := E.w.heap.setIfInBounds (E.φ b) (.map (FV (BJ ++ [(kv, v)])) (BJ ++ [(kv, v)]).length) })
      rw [List.length_append]
      rfl
theorem TH {E : AZ} {z : V} {u : Value} {i : Nat} (h : AA E z u) : AA E (.FH [z, .int .i64 i]) (.tuple #[u, .int .i64 i]) := by
 simp only [AA]
 refine ⟨_, rfl, ?_⟩
 simp only [AP, AA]
 exact ⟨_, _, rfl, h, _, _, rfl, rfl, rfl⟩
theorem T3 (hs : Cc c E S a) {t : TypeId} {x k : Operand} {m kv v : V} {H' : A3} (ho : o.op = .mapEntry t x k) (hx : ev S.T x = some m) (hk : ev S.T k = some kv) (h : J4 c t S.H m kv = some (v, H')) : Gc c E a o v H' := by
  have r1 := B5 hs x _ hx
  have r2 := B5 hs k _ hk
  unfold J4 at h
  split at h
  case h_2 => cases h
  rename_i b
  split at h
  case h_2 => cases h
  rename_i BJ hb
  simp only [Option.bind_eq_some_iff] at h
  obtain ⟨q, hq, h⟩ := h
  split at h
  case isFalse => cases h
  rename_i hc
  obtain ⟨c1, c3, c4⟩ := hc
  simp only [Option.bind_eq_some_iff] at h
  obtain ⟨r, hr, h⟩ := h
  obtain ⟨e1, e2, e3⟩ := NR hs hb r1
  obtain ⟨kt, hu, hkt⟩ := Jo hq
  have ek := GZ c1 r2
  have hchk := MT (P := c.P) (w := E.w) hkt c3 false
  have hfind := PW (P := c.P) (w := E.w) E hkt c1 e3 hr
  cases r with
  | some r =>
    obtain ⟨j, vv⟩ := r
    simp only [Option.some.injEq, Prod.mk.injEq] at h
    obtain ⟨rfl, rfl⟩ := h
    obtain ⟨n, kk, h1, h2, h3⟩ := Hl BJ 0 j vv hr
    have hj : j = n := by omega
    subst hj
    have hkk := Mg hkt h3
    have hpl := (e3 _ (List.mem_of_getElem? h2)).2
    have hA := La (kvs' := BJ.set j (kv, vv)) hs hb e2 c4 (fun x hx => by
      rcases List.mem_or_eq_of_mem_set hx with h | h
      · exact e3 x h
      · subst h; exact ⟨c1, hpl⟩)
    refine ⟨_, hA, .inl ⟨.tuple #[Az vv, .int .i64 j], ?_, TH (Jq _ hpl)⟩⟩
    have hst := Qb (P := c.P) (w := E.w) c1
    have hes : (FV BJ)[j]? = some { key := Az kv, val := Az vv, born := j } := by rw [Gh, h2, hkk]; rfl
    have hset := Np BJ j kv vv (fun e => { e with key := Az kv }) (fun x hx => by rw [h2] at hx; cases hx; rfl)
    simp only [execOp, ho, Instr.mapEntry, e1, ek, Sem.run_bind, run_underlying hu, Result.andThen_ok, Go.MapKept.run_getObj_map e2, Sem.run_pure, hchk, hfind, Option.map_some, hes, Option.getD_some, hst, Go.MapKept.run_setObj_map _ e2]
    rw [hset]
    show _ = Result.ok _ ({ E.w with heap := E.w.heap.setIfInBounds (E.φ b) (.map (FV (BJ.set j (kv, vv))) (BJ.set j (kv, vv)).length) })
    rw [List.length_set]
    rfl
  | none =>
    simp only [Option.bind_eq_some_iff] at h
    obtain ⟨z, hz, h⟩ := h
    split at h
    case isFalse => cases h
    rename_i hzp
    simp only [Option.some.injEq, Prod.mk.injEq] at h
    obtain ⟨rfl, rfl⟩ := h
    obtain ⟨zx, hzr, hzo⟩ := Qn hz E.w
    have ez : zx = Az z := GZ hzp (HO E zx z hzo)
    have hA := La (kvs' := BJ ++ [(kv, z)]) hs hb e2 c4 (fun x hx => by
      rcases List.mem_append.1 hx with h | h
      · exact e3 x h
      · rw [List.mem_singleton.1 h]; exact ⟨c1, hzp⟩)
    refine ⟨_, hA, .inl ⟨.tuple #[zx, .int .i64 BJ.length], ?_, TH (by rw [ez]; exact Jq _ hzp)⟩⟩
    have hpush := QE BJ kv z
    rw [← ez] at hpush
    simp only [execOp, ho, Instr.mapEntry, e1, ek, Sem.run_bind, run_underlying hu, Result.andThen_ok, Go.MapKept.run_getObj_map e2, Sem.run_pure, hchk, hfind, Option.map_none, hzr, Go.MapKept.run_setObj_map _ e2]
    rw [hpush]
    show _ = Result.ok _ ({ E.w with heap := E.w.heap.setIfInBounds (E.φ b) (.map (FV (BJ ++ [(kv, z)])) (BJ ++ [(kv, z)]).length) })
    rw [List.length_append]
    rfl
theorem T0 (hs : Cc c E S a) {t : TypeId} {x st y : Operand} {m sv v : V} {H' : A3} (ho : o.op = .entryStore t x st y) (hx : ev S.T x = some m) (hst : ev S.T st = some sv) (hy : ev S.T y = some v) (h : Nn c S.H m sv v = some H') : Gc c E a o Ca H' := by
 have r1 := B5 hs x _ hx
 have r2 := B5 hs st _ hst
 have r3 := B5 hs y _ hy
 unfold Nn at h
 split at h
 case h_2 => cases h
 rename_i b kd i
 split at h
 case h_2 => cases h
 rename_i BJ hb
 split at h
 case isFalse => cases h
 rename_i hc
 obtain ⟨c1, c2, c4⟩ := hc
 simp only [Option.map_eq_some_iff] at h
 obtain ⟨e, he, rfl⟩ := h
 obtain ⟨e1, e2, e3⟩ := NR hs hb r1
 simp only [AA] at r2
 have ev' := GZ c2 r3
 have hel := e3 _ (List.mem_of_getElem? he)
 have hA := La (kvs' := BJ.set i.toNat (e.1, v)) hs hb e2 c4 (fun x hx => by
  rcases List.mem_or_eq_of_mem_set hx with h | h
  ·exact e3 x h
  ·subst h; exact ⟨hel.1, c2⟩)
 refine ⟨_, hA, .inr ⟨?_, Kb _⟩⟩
 have hlt := (List.getElem?_eq_some_iff.1 he).1
 have hfi : (FV BJ).findIdx? (fun e => (e.born : Int) == i) = some i.toNat := by
  rw [Array.findIdx?_eq_some_iff_getElem]
  have hg : ∀ j (hj : j < (FV BJ).size), (FV BJ)[j].born = j := by
   intro j hj
   have h1 := Gh BJ j
   rw [Array.getElem?_eq_getElem hj] at h1
   have hj' : j < BJ.length := by rw [← Li]; exact hj
   rw [List.getElem?_eq_getElem hj'] at h1
   simp only [Option.map_some, Option.some.injEq] at h1
   rw [h1]
  refine ⟨by rw [Li]; exact hlt, ?_, fun j hj => ?_⟩
  ·rw [hg]
   simp only [beq_iff_eq]
   omega
  ·rw [hg]
   simp only [beq_iff_eq]
   omega
 have hset := Np BJ i.toNat e.1 v (fun e => { e with val := Az v }) (fun x hx => by rw [he] at hx; cases hx; rfl)
 simp only [execOp, ho, Instr.entryStore, e1, r2, ev', asInt, asIntOf, Sem.run_bind, Result.andThen_ok, Go.MapKept.run_getObj_map e2, Sem.run_pure, hfi, Go.MapKept.run_setObj_map _ e2]
 rw [hset]
 show _ = Result.ok _ ({ E.w with heap := E.w.heap.setIfInBounds (E.φ b) (.map (FV (BJ.set i.toNat (e.1, v))) (BJ.set i.toNat (e.1, v)).length) })
 rw [List.length_set]
end
section
variable {c : Cx} {E : AZ} {S : St} {a : Act} {o : Oper}
theorem Jr (hs : Cc c E S a) {v : V} {u : Value} {len : Nat} (hr : AA E v u) :
  (∀ lv cs, v = .lit lv len cs → lv ≤ E.m ∧ ∃ A cap, u = .slice A len cap ∧ len ≤ cap ∧ (len = 0 ∨ ∃ g q, A = some ⟨g, q, none⟩ ∧ CN E (some lv) g q cs)) ∧
  (∀ cs, v = .tl len cs → ∃ A cap, u = .slice A len cap ∧ len ≤ cap ∧ (len = 0 ∨ ∃ g q, A = some ⟨g, q, none⟩ ∧ CN E (some 0) g q cs)) ∧
  (∀ b cs, v = .snap b len cs → ∃ A cap, u = .slice A len cap ∧ len ≤ cap ∧ ∃ g q, A = some ⟨g, q, none⟩ ∧ CN E (some c.d) g q cs) := by
 refine ⟨?_, ?_, ?_⟩
 ·rintro lv cs rfl
  simp only [AA] at hr
  exact hr
 ·rintro cs rfl
  simp only [AA] at hr
  obtain ⟨A, h1, h2⟩ := hr
  exact ⟨A, len, h1, Nat.le_refl _, h2⟩
 ·rintro b cs rfl
  simp only [AA] at hr
  obtain ⟨_, ⟨A, cap, h1, h2, ⟨g, q, h3, _, h4⟩, _⟩, _⟩ := hr
  exact ⟨A, cap, h1, h2, g, q, h3, CN.all hs.heap (by rw [hs.lk]; exact Nat.le_refl _) h4⟩
theorem iM (hs : Cc c E S a) : c.d ≤ E.m := by rw [hs.m]; exact Nat.le_refl _
theorem YI (hs : Cc c E S a) {v : V} {H' : A3} (hc : EI o = false) (h : CU c o S = some (v, H')) : Gc c E a o v H' := by
 cases ho : o.op with
 | move x =>
  simp only [CU, ho, Option.map_eq_some_iff, Prod.mk.injEq] at h
  obtain ⟨_, hx, rfl, rfl⟩ := h
  exact (UH hs ho hx).makes hs
 | assign x =>
  simp only [CU, ho, Option.map_eq_some_iff, Prod.mk.injEq] at h
  obtain ⟨_, hx, rfl, rfl⟩ := h
  exact (Rb hs ho hx).makes hs
 | pick k x y =>
  simp only [CU, ho] at h
  split at h
  ·rename_i hk
   simp only [Option.map_eq_some_iff, Prod.mk.injEq] at h
   obtain ⟨_, hx, rfl, rfl⟩ := h
   exact (Oq hs ho hk (by simpa using hx)).makes hs
  ·rename_i hk
   simp only [Option.map_eq_some_iff, Prod.mk.injEq] at h
   obtain ⟨_, hx, rfl, rfl⟩ := h
   exact (Oq hs ho hk (by simpa using hx)).makes hs
  ·cases h
 | alloc t =>
  simp only [CU, ho, Option.bind_eq_some_iff, Option.some.injEq, Prod.mk.injEq] at h
  obtain ⟨sz, _, z, hz, rfl, rfl⟩ := h
  exact Sz hs ho hz
 | box t x =>
  simp only [CU, ho, Option.bind_eq_some_iff] at h
  obtain ⟨sz, _, w, hw, h⟩ := h
  split at h
  ·rename_i hcell
   simp only [Option.some.injEq, Prod.mk.injEq] at h
   obtain ⟨rfl, rfl⟩ := h
   exact WX hs ho hw hcell
  ·cases h
 | build t parts =>
  simp only [CU, ho, Option.bind_eq_some_iff, Option.map_eq_some_iff, Prod.mk.injEq] at h
  obtain ⟨ps, hp, z, hz, pl, hpl, _, ⟨cs, hcs, rfl⟩, rfl, rfl⟩ := h
  exact (Sn hs ho hp hz hpl hcs).makes hs
 | buildSlice t n parts =>
  simp only [CU, ho, Option.bind_eq_some_iff] at h
  obtain ⟨ps, hp, ⟨ps', H1⟩, hem, e, he, sz, hsz, z, hz, h⟩ := h
  split at h
  ·rename_i hcond
   obtain ⟨h1, h2, h3⟩ := hcond
   simp only [Option.map_eq_some_iff, Prod.mk.injEq] at h
   obtain ⟨cs, hcs, rfl, rfl⟩ := h
   exact MF hs ho hp hem he hsz hz h1 h2 h3 hcs
  ·cases h
 | load t x =>
  simp only [CU, ho, Option.bind_eq_some_iff, Option.map_eq_some_iff, Prod.mk.injEq] at h
  obtain ⟨p, hp, _, hl, rfl, rfl⟩ := h
  exact (UG hs ho hp hl).makes hs
 | store t p x =>
  simp only [CU, ho, Option.bind_eq_some_iff, Option.map_eq_some_iff, Prod.mk.injEq] at h
  obtain ⟨P, hp, X, hx, H1, h1, rfl, rfl⟩ := h
  exact T4 hs ho hp hx h1
 | nilCheck x =>
  simp only [CU, ho] at h
  split at h
  ·rename_i hx
   simp only [Option.map_some, Option.some.injEq, Prod.mk.injEq] at h
   obtain ⟨rfl, rfl⟩ := h
   exact (KQ hs ho hx).makes hs
  ·rename_i hx
   simp only [Option.map_some, Option.some.injEq, Prod.mk.injEq] at h
   obtain ⟨rfl, rfl⟩ := h
   exact (L5 hs ho hx).makes hs
  ·cases h
 | binOp op t x y t2 =>
  simp only [CU, ho, Option.bind_eq_some_iff, Option.map_eq_some_iff, Prod.mk.injEq] at h
  obtain ⟨p, hp, q, hq, _, hb, rfl, rfl⟩ := h
  exact (Sl hs ho hp hq hb).makes hs
 | unOp op t x =>
  simp only [CU, ho, Option.bind_eq_some_iff, Option.map_eq_some_iff, Prod.mk.injEq] at h
  obtain ⟨p, hp, _, hb, rfl, rfl⟩ := h
  exact (UI hs ho hp hb).makes hs
 | convert src dst x =>
  simp only [CU, ho] at h
  split at h
  ·rename_i h1 h2 h3
   simp only [Option.map_some, Option.some.injEq, Prod.mk.injEq] at h
   obtain ⟨rfl, rfl⟩ := h
   exact (Pr hs ho h1 h2 h3).makes hs
  ·rename_i e n cs h1 h2 h3
   split at h
   ·rename_i hn
    obtain ⟨rfl, he⟩ := hn
    simp only [Option.map_eq_some_iff, Prod.mk.injEq] at h
    obtain ⟨_, ⟨s, hb, rfl⟩, rfl, rfl⟩ := h
    unfold nZ at he
    split at he
    ·rename_i he'
     exact (Jw hs ho h1 h2 he' h3 hb).makes hs
    ·cases he
   ·cases h
  ·cases h
 | makeFunc fn first caps =>
  simp only [CU, ho] at h
  split at h
  case h_2 => cases h
  rename_i f hf
  have hf' : first = #[] := by apply Array.ext'; simpa using hf
  subst hf'
  simp only [Option.bind_eq_some_iff, Option.map_some, Option.some.injEq, Prod.mk.injEq] at h
  obtain ⟨vs, hvs, rfl, rfl⟩ := h
  exact (Oo hs ho hvs).makes hs
 | makeSlice t n m =>
  simp only [CU, ho, Option.bind_eq_some_iff] at h
  obtain ⟨N, hn, M, hm, h⟩ := h
  exact UW hs ho hn hm h
 | slice t x lo hi mx =>
  cases mx with
  | none =>
   simp only [CU, ho, Option.bind_eq_some_iff] at h
   obtain ⟨w, hx, n, hn, l, hl, r, hr, e, he, sz, hsz, h⟩ := h
   split at h
   case isFalse => cases h
   rename_i hc
   obtain ⟨h1, h2⟩ := hc
   have hrx := B5 hs x _ hx
   split at h
   ·simp only [Option.map_some, Option.some.injEq, Prod.mk.injEq, CZ] at h hn
    subst hn
    obtain ⟨rfl, rfl⟩ := h
    obtain ⟨k0, A, cap, k1, k2, k3⟩ := (Jr hs hrx).1 _ _ rfl
    exact (GF hs ho he hsz k0 k1 k2 k3 hl hr h1 h2).makes hs
   ·simp only [Option.map_some, Option.some.injEq, Prod.mk.injEq, CZ] at h hn
    subst hn
    obtain ⟨rfl, rfl⟩ := h
    obtain ⟨A, cap, k1, k2, k3⟩ := (Jr hs hrx).2.1 _ rfl
    exact (GF hs ho he hsz (Nat.zero_le _) k1 k2 k3 hl hr h1 h2).makes hs
   ·simp only [Option.map_some, Option.some.injEq, Prod.mk.injEq, CZ] at h hn
    subst hn
    obtain ⟨rfl, rfl⟩ := h
    obtain ⟨A, cap, k1, k2, k3⟩ := (Jr hs hrx).2.2 _ _ rfl
    exact (GF hs ho he hsz (iM hs) k1 k2 (.inr k3) hl hr h1 h2).makes hs
   ·simp only [Option.map_some, Option.some.injEq, Prod.mk.injEq, CZ] at h hn
    subst hn
    obtain ⟨rfl, rfl⟩ := h
    exact (Ot hs ho he hsz hx hl hr h1 h2).makes hs
   ·cases h
  | some mx =>
   simp only [CU, ho] at h
   split at h
   case h_2 => cases h
   rename_i hi
   simp only [Option.bind_eq_some_iff] at h
   obtain ⟨w, hx, n, hn, e, he, sz, hsz, h⟩ := h
   split at h
   case h_2 => cases h
   rename_i k i k' j h1 h2
   split at h
   case isFalse => cases h
   rename_i hc
   obtain ⟨rfl, rfl⟩ := hc
   simp only [Option.map_some, Option.some.injEq, Prod.mk.injEq] at h
   obtain ⟨rfl, rfl⟩ := h
   exact (Re hs ho he hsz hx hn h1 h2).makes hs
 | fieldAddr s x f =>
  simp only [CU, ho, Option.bind_eq_some_iff] at h
  obtain ⟨off, hoff, h⟩ := h
  split at h
  ·rename_i hx
   simp only [Option.map_some, Option.some.injEq, Prod.mk.injEq] at h
   obtain ⟨rfl, rfl⟩ := h
   exact (Jx hs ho hoff hx).makes hs
  ·rename_i hx
   simp only [Option.map_some, Option.some.injEq, Prod.mk.injEq] at h
   obtain ⟨rfl, rfl⟩ := h
   exact (KP hs ho hoff hx).makes hs
  ·cases h
 | field s x f =>
  simp only [CU, ho, Option.bind_eq_some_iff] at h
  obtain ⟨off, hoff, h⟩ := h
  split at h
  case h_2 => cases h
  rename_i fs hfs
  split at h
  case h_2 => cases h
  rename_i g cs hg hx
  simp only [Option.map_eq_some_iff, Prod.mk.injEq] at h
  obtain ⟨_, hr, rfl, rfl⟩ := h
  exact (So hs ho hoff hfs hg hx hr).makes hs
 | indexAddr t x i =>
  simp only [CU, ho, Option.bind_eq_some_iff] at h
  obtain ⟨e, he, sz, hsz, w, hx, h⟩ := h
  split at h
  case h_2 => cases h
  rename_i k n hi
  simp only [Option.bind_eq_some_iff] at h
  obtain ⟨len, hn, h⟩ := h
  split at h
  case isFalse => cases h
  rename_i hc
  obtain ⟨h0, h1⟩ := hc
  have hrx := B5 hs x _ hx
  have hri := B5 hs i _ hi
  simp only [AA] at hri
  have hpos : ¬ len = 0 := by omega
  split at h
  ·simp only [Option.map_some, Option.some.injEq, Prod.mk.injEq, CZ] at h hn
   subst hn
   obtain ⟨rfl, rfl⟩ := h
   obtain ⟨k0, A, cap, k1, k2, k3⟩ := (Jr hs hrx).1 _ _ rfl
   exact (GD ho he hsz k0 k1 (k3.resolve_left hpos) hri h0 h1).makes hs
  ·simp only [Option.map_some, Option.some.injEq, Prod.mk.injEq, CZ] at h hn
   subst hn
   obtain ⟨rfl, rfl⟩ := h
   obtain ⟨A, cap, k1, k2, k3⟩ := (Jr hs hrx).2.1 _ rfl
   exact (GD ho he hsz (Nat.zero_le _) k1 (k3.resolve_left hpos) hri h0 h1).makes hs
  ·simp only [Option.map_some, Option.some.injEq, Prod.mk.injEq, CZ] at h hn
   subst hn
   obtain ⟨rfl, rfl⟩ := h
   obtain ⟨A, cap, k1, k2, k3⟩ := (Jr hs hrx).2.2 _ _ rfl
   exact (GD ho he hsz (iM hs) k1 k3 hri h0 h1).makes hs
  ·simp only [Option.map_some, Option.some.injEq, Prod.mk.injEq, CZ] at h hn
   subst hn
   obtain ⟨rfl, rfl⟩ := h
   exact (On hs ho he hsz hx hi h0 h1).makes hs
  ·cases h
 | index t x i =>
  simp only [CU, ho] at h
  split at h
  case h_2 => cases h
  rename_i ht hx hi
  split at h
  case isFalse => cases h
  rename_i h0
  simp only [Option.map_eq_some_iff, Prod.mk.injEq] at h
  obtain ⟨_, ⟨b, hb, rfl⟩, rfl, rfl⟩ := h
  exact (Rc hs ho ht hx hi h0 hb).makes hs
 | extract x i =>
  simp only [CU, ho] at h
  split at h
  case h_2 => cases h
  rename_i vs hx
  simp only [Option.map_eq_some_iff, Prod.mk.injEq] at h
  obtain ⟨_, hv, rfl, rfl⟩ := h
  exact (Ps hs ho hx hv).makes hs
 | call k =>
  obtain ⟨callee, args, ats⟩ := k
  cases callee with
  | value f => simp [EI, ho] at hc
  | invoke r n => simp [CU, ho] at h
  | builtin b =>
   cases b with
   | len =>
    simp only [CU, ho] at h
    split at h
    case h_2 => cases h
    rename_i x t ha ht
    split at h
    ·rename_i h1 h2
     simp only [Option.map_some, Option.some.injEq, Prod.mk.injEq] at h
     obtain ⟨rfl, rfl⟩ := h
     exact (UF hs ho ha ht h1 h2).makes hs
    ·rename_i h1 h2
     simp only [Option.bind_eq_some_iff, Option.map_some, Option.some.injEq, Prod.mk.injEq] at h
     obtain ⟨n, hn, rfl, rfl⟩ := h
     exact (WM hs ho ha ht h1 h2 hn).makes hs
    ·cases h
   | append =>
    simp only [CU, ho] at h
    split at h
    case h_2 => cases h
    rename_i s x st xt ha ht
    simp only [Option.bind_eq_some_iff] at h
    obtain ⟨p, hp, q, hq, h⟩ := h
    exact Rn hs ho ha ht hp hq h
   | min =>
    simp only [CU, ho] at h
    split at h
    case h_2 => cases h
    rename_i x y ha
    split at h
    case h_2 => cases h
    rename_i hx hy
    simp only [Option.map_some, Option.some.injEq, Prod.mk.injEq] at h
    obtain ⟨rfl, rfl⟩ := h
    exact (WO hs ho ha hx hy).makes hs
   | max =>
    simp only [CU, ho] at h
    split at h
    case h_2 => cases h
    rename_i x y ha
    split at h
    case h_2 => cases h
    rename_i hx hy
    simp only [Option.map_some, Option.some.injEq, Prod.mk.injEq] at h
    obtain ⟨rfl, rfl⟩ := h
    exact (WN hs ho ha hx hy).makes hs
   | _ => simp [CU, ho] at h
 | makeMap t r =>
  cases r with
  | none =>
   simp only [CU, ho, Option.some.injEq, Prod.mk.injEq] at h
   obtain ⟨rfl, rfl⟩ := h
   exact Pw hs ho
  | some r => simp [CU, ho] at h
 | lookup t x k ok =>
  simp only [CU, ho, Option.bind_eq_some_iff, Option.map_eq_some_iff, Prod.mk.injEq] at h
  obtain ⟨m, hm, kv, hk, w, hw, rfl, rfl⟩ := h
  exact (Rd hs ho hm hk hw).makes hs
 | mapUpdate t x k y =>
  simp only [CU, ho, Option.bind_eq_some_iff, Option.map_eq_some_iff, Prod.mk.injEq] at h
  obtain ⟨m, hm, kv, hk, w, hw, H1, h1, rfl, rfl⟩ := h
  exact Ro hs ho hm hk hw h1
 | mapEntry t x k =>
  simp only [CU, ho, Option.bind_eq_some_iff] at h
  obtain ⟨m, hm, kv, hk, h⟩ := h
  exact T3 hs ho hm hk h
 | entryStore t x st y =>
  simp only [CU, ho, Option.bind_eq_some_iff, Option.map_eq_some_iff, Prod.mk.injEq] at h
  obtain ⟨m, hm, sv, hsv, w, hw, H1, h1, rfl, rfl⟩ := h
  exact T0 hs ho hm hsv hw h1
 | _ => simp [CU, ho] at h
end
end Go.Proofs.YtphpkphklegfeaaGreat.K
