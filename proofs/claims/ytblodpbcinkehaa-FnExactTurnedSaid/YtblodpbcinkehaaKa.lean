/-
  The canonical interpreter: values that bear their lists' contents, blocks for what is written. No conditions.
-/
import Derived.Calls
import Derived.Orders
import Derived.Deep.Draws
import Derived.Laws.BytesString
set_option linter.unusedVariables false
set_option linter.unusedSimpArgs false
namespace Go.Proofs.Ytblodpbcinkehaa.K

inductive V where
  | int (k : IntKind) (n : Int)
  | bool (b : Bool)
  | str (s : ByteArray)
  | nilp
  | ptr (b off : Nat)
  | lp (lv : Nat) (cells : List V) (off : Nat)
  | lit (lv len : Nat) (cells : List V)
  | tl (len : Nat) (cells : List V)
  | snap (b len : Nat) (cells : List V)
  | pre (b n len : Nat) (cells : List V)
  | sl (b off len : Nat)
  | agg (cells : List V)
  | tup (vs : List V)
  | fn (f : FuncId) (caps : List V)
  | nilfn
  | mref (b : Nat)
  deriving Inhabited

inductive Blk where
  | cells (sz : Nat) (cs : List V)
  | bld (lv n sz : Nat)
  | dead
  | mp (kvs : List (V × V))
  deriving Inhabited

abbrev Heap := List Blk
abbrev Lk := List (List Nat)

/-- How a parameter is taken: lent (its lists are read alone), by reference, or given for ever (immutable from then on). -/
inductive Mode where | lent | exact | share | part
  deriving DecidableEq

structure Hints where
  modes : FuncId → List Mode
  thaw : FuncId → Bool
  grow : FuncId → Bool
  keep : FuncId → Bool

def V.cellsOf : V → List V
  | .agg cs => cs
  | v => [v]
def V.isCell : V → Bool
  | .agg _ | .tup _ => false
  | _ => true
def undefV : V := .tup []

def ofCell : Value → Option V
  | .int k n => some (.int k n)
  | .bool b => some (.bool b)
  | .string s => some (.str s)
  | .pointer none => some .nilp
  | .slice none 0 0 => some (.tl 0 [])
  | .nilFunc => some .nilfn
  | _ => none
def ofCells : List Value → Option (List V)
  | [] => some []
  | v :: vs => (ofCell v).bind fun x => (ofCells vs).map (x :: ·)
def ofValue : Value → Option V
  | .agg cs => (ofCells cs.toList).map .agg
  | v => ofCell v

structure St where
  T : Nat → V
  H : Heap
def St.set (S : St) (d : Nat) (v : V) : St := { S with T := fun i => if i = d then v else S.T i }
def St.put (S : St) (d : Option Nat) (v : V) : St := match d with | some d => S.set d v | none => S

def ev (T : Nat → V) : Operand → Option V
  | .tmp t => some (T t)
  | .const v => ofValue v
  | .func f => some (.fn f [])
  | .global _ => none

section types
variable (P : Program)
def szOf (t : TypeId) : Option Nat := (P.info? t).map (·.size)
def bytesOf (t : TypeId) : Option Nat := (P.info? t).map (·.bytes)
def aggT (t : TypeId) : Option Bool :=
  match P.underlying t with
  | some (.struct _) | some (.array _ _) => some true
  | some _ => some false
  | none => none
def zeroOf (t : TypeId) : Option (List V) := ((P.info? t).bind (·.zero)).bind fun z => (ofValue z).map V.cellsOf
def elemT (t : TypeId) : Option TypeId := match P.underlying t with | some (.slice e) => some e | _ => none
/-- The place of a field: its offset; only of fields that are not empty. -/
def fieldOff (s : TypeId) (f : Nat) : Option Nat :=
  match P.underlying s with
  | some (.struct fs) => match fs[f]? with
    | some g => match szOf P g.type with
      | some (_ + 1) => some g.offset
      | _ => none
    | none => none
  | _ => none
def placesK (t : TypeId) : Option (List (Nat × Nat)) :=
  match P.underlying t with
  | some (.struct fs) => fs.toList.mapM fun f => (P.info? f.type).map fun i => (f.offset, i.size)
  | _ => none
def u8T (e : TypeId) : Bool := match P.underlying e with | some (.int .u8) => true | _ => false
inductive Sc where | b | i | s
  deriving DecidableEq
def scalarT (t : TypeId) : Option Sc :=
  match P.underlying t with
  | some .bool => some .b
  | some (.int _) => some .i
  | some .string => some .s
  | _ => none
/-- A struct of numbers, bools and strings alone, each one cell, none of them blank: '==' is that of its cells. -/
def flatFields (n : Nat) : List Field → Option (List Sc)
  | [] => some []
  | f :: fs => if f.name ≠ "_" ∧ f.offset = n ∧ szOf P f.type = some 1 then (scalarT P f.type).bind fun k => (flatFields (n + 1) fs).map (k :: ·) else none
def flatT (t : TypeId) : Option (List Sc) :=
  match P.underlying t with
  | some (.struct fs) => if !P.stoodInHeld t && !P.eqGuardType P.depth t then flatFields P 0 fs.toList else none
  | _ => none
end types

/-- Bytes, as a text. -/
def bytesV (acc : ByteArray) : List V → Option ByteArray
  | [] => some acc
  | .int .u8 n :: cs => bytesV (acc.push (UInt8.ofNat n.toNat)) cs
  | _ => none
def splice (cs : List V) (off : Nat) (xs : List V) : List V := cs.take off ++ xs ++ cs.drop (off + xs.length)

/-- Numbers, bools, strings: what '==' takes cell by cell. -/
def eqCell : Sc → V → V → Option Bool
  | .i, .int k a, .int k' b => if k = k' then some (a == b) else none
  | .b, .bool a, .bool b => some (a == b)
  | .s, .str a, .str b => some (a.toList == b.toList)
  | _, _, _ => none
def eqCells : List Sc → List V → List V → Option Bool
  | [], _, _ => some true
  | k :: ks, x :: xs, y :: ys => (eqCell k x y).bind fun b => if b then eqCells ks xs ys else some false
  | _, _, _ => none

def intOp (op : BinOp) (k : IntKind) (a b : Int) : Option V :=
  match op with
  | .add => some (.int k (k.wrap (a + b)))
  | .sub => some (.int k (k.wrap (a - b)))
  | .mul => some (.int k (k.wrap (a * b)))
  | .quo => if b = 0 then none else some (.int k (k.wrap (a.tdiv b)))
  | .rem => if b = 0 then none else some (.int k (a.tmod b))
  | .xor => some (.int k (k.wrap (BitVec.ofInt k.bits a ^^^ BitVec.ofInt k.bits b).toNat))
  | .eql => some (.bool (a == b))
  | .neq => some (.bool (a != b))
  | .lss => some (.bool (decide (a < b)))
  | .leq => some (.bool (decide (a ≤ b)))
  | .gtr => some (.bool (decide (a > b)))
  | .geq => some (.bool (decide (a ≥ b)))
  | _ => none
def binK (P : Program) (op : BinOp) (t : TypeId) (x y : V) : Option V :=
  match x, y with
  | .int k a, .int k' b => if k = k' then intOp op k a b else none
  | .bool a, .bool b =>
    match op, P.underlying t with
    | .eql, some .bool => some (.bool (a == b))
    | .neq, some .bool => some (.bool (!(a == b)))
    | _, _ => none
  | .str a, .str b =>
    match op with
    | .eql => some (.bool (a.toList == b.toList))
    | .neq => some (.bool !(a.toList == b.toList))
    | .add => if a.size + b.size ≤ 1099511627776 then some (.str (a ++ b)) else none
    | _ => none
  | .agg xs, .agg ys =>
    (flatT P t).bind fun ks =>
      match op with
      | .eql => (eqCells ks xs ys).map .bool
      | .neq => (eqCells ks xs ys).map fun b => .bool !b
      | _ => none
  | _, _ => none
def unK (op : UnOp) (x : V) : Option V :=
  match op, x with
  | .not, .bool b => some (.bool !b)
  | .neg, .int k n => some (.int k (k.wrap (0 - n)))
  | _, _ => none

def lenK : V → Option Nat
  | .lit _ n _ | .tl n _ | .snap _ n _ | .pre _ _ n _ | .sl _ _ n => some n
  | _ => none

/-- What a list holds, cell by cell. -/
def contents (H : Heap) (sz : Nat) : V → Option (List V)
  | .lit _ _ cs | .tl _ cs | .snap _ _ cs | .pre _ _ _ cs => some cs
  | .sl b off len => match H[b]? with
    | some (.cells z cs) => if z = sz ∧ off + len * sz ≤ cs.length then some ((cs.drop off).take (len * sz)) else none
    | _ => none
  | _ => none

def readCells (P : Program) (t : TypeId) (cs : List V) (off : Nat) : Option V :=
  match aggT P t with
  | some true => (szOf P t).bind fun n => if off + n ≤ cs.length then some (.agg ((cs.drop off).take n)) else none
  | some false => cs[off]?
  | none => none
def loadK (P : Program) (t : TypeId) (H : Heap) : V → Option V
  | .ptr b off => match H[b]? with
    | some (.cells _ cs) => readCells P t cs off
    | _ => none
  | .lp _ cs off => readCells P t cs off
  | _ => none

/-- What may leave a call of depth d: numbers, texts, lists that were not lent to this call. -/
def clean (d : Nat) : V → Bool
  | .int .. | .bool _ | .str _ | .nilp | .nilfn => true
  | .lit lv _ cs => (lv == 0 || decide (lv < d)) && cleanL cs
  | .agg cs => cleanL cs
  | .tup cs => cleanL cs
  | _ => false
where
  cleanL : List V → Bool
    | [] => true
    | v :: vs => clean d v && cleanL vs
/-- Lists that are given up: immutable for ever from now on; the blocks that bore them are dead. 'lo': blocks below are others'. -/
def giveV (lo : Nat) : Nat → Heap → V → Option (V × Heap)
  | 0, _, _ => none
  | k + 1, H, v =>
    match v with
    | .int .. | .bool _ | .str _ | .nilp | .nilfn => some (v, H)
    | .lit .. => if clean 1 v then some (v, H) else none
    | .tl n cs => (giveL (giveV lo k) H cs).map fun r => (.lit 0 n r.1, r.2)
    | .snap b n cs => match H[b]? with
      | some (.bld _ m _) => if b < lo ∨ m ≠ n then none else (giveL (giveV lo k) (H.set b .dead) cs).map fun r => (.lit 0 n r.1, r.2)
      | _ => none
    | .sl b off n => match H[b]? with
      | some (.cells sz cs) => if b < lo ∨ cs.length < off + n * sz then none else
          (giveL (giveV lo k) (H.set b .dead) ((cs.drop off).take (n * sz))).map fun r => (.lit 0 n r.1, r.2)
      | _ => none
    | .agg cs => (giveL (giveV lo k) H cs).map fun r => (.agg r.1, r.2)
    | _ => none
where
  giveL (f : Heap → V → Option (V × Heap)) : Heap → List V → Option (List V × Heap)
    | H, [] => some ([], H)
    | H, v :: vs => (f H v).bind fun r => (giveL f r.2 vs).map fun q => (r.1 :: q.1, q.2)

/-- The same, with names of blocks. -/
def cleanG (d : Nat) : V → Bool
  | .int .. | .bool _ | .str _ | .nilp | .nilfn | .ptr .. | .sl .. | .mref _ => true
  | .lit lv _ cs => (lv == 0 || decide (lv < d)) && cleanGL cs
  | .agg cs => cleanGL cs
  | .tup cs => cleanGL cs
  | .tl _ cs => cleanGL cs
  | .snap _ _ cs => cleanGL cs
  | .fn _ cs => cleanGL cs
  | _ => false
where
  cleanGL : List V → Bool
    | [] => true
    | v :: vs => cleanG d v && cleanGL vs

/-- An argument as it is lent: lists are read alone; the blocks that are locked meanwhile. -/
def lendV (lv : Nat) (H : Heap) : Nat → V → Option (V × List Nat)
  | 0, _ => none
  | k + 1, v =>
    match v with
    | .int .. | .bool _ | .str _ | .nilp | .nilfn | .ptr .. | .mref .. | .lp .. | .lit .. | .fn .. => some (v, [])
    | .tl n cs => (lendL (lendV lv H k) cs).map fun r => (.lit lv n r.1, r.2)
    | .snap _ n cs => (lendL (lendV lv H k) cs).map fun r => (.lit lv n r.1, r.2)
    | .pre _ _ n cs => (lendL (lendV lv H k) cs).map fun r => (.lit lv n r.1, r.2)
    | .sl b off n => match H[b]? with
      | some (.cells sz cs) => if cs.length < off + n * sz then none else
          (lendL (lendV lv H k) ((cs.drop off).take (n * sz))).map fun r => (.lit lv n r.1, b :: r.2)
      | _ => none
    | .agg cs => (lendL (lendV lv H k) cs).map fun r => (.agg r.1, r.2)
    | .tup _ => none
where
  lendL (f : V → Option (V × List Nat)) : List V → Option (List V × List Nat)
    | [] => some ([], [])
    | v :: vs => (f v).bind fun r => (lendL f vs).map fun q => (r.1 :: q.1, r.2 ++ q.2)

/-- A result as it leaves the call: its own lists become immutable, or (th) new blocks of the caller's from number 'lo' on. -/
def resV (th : Bool) (lo d : Nat) : Nat → Heap × List Blk → V → Option (V × Heap × List Blk)
  | 0, _, _ => none
  | k + 1, X, v =>
    match v with
    | .int .. | .bool _ | .str _ | .nilp | .nilfn => some (v, X)
    | .ptr b _ => if b < lo then some (v, X) else none
    | .mref b => if b < lo then some (v, X) else none
    | .lit .. => if clean d v then some (v, X) else none
    | .tl n cs => if n = 0 then some (if th then .tl 0 [] else .lit 0 0 [], X) else (resL (resV th lo d k) X cs).map fun r => (.lit 0 n r.1, r.2)
    | .snap b n cs => match X.1[b]? with
      | some (.bld l m sz) => if b < lo ∨ m ≠ n ∨ l < d then none else
          (resL (resV th lo d k) (X.1.set b .dead, X.2) cs).bind fun r =>
            if th then if cs.length = n * sz then some (.sl (lo + r.2.2.length) 0 n, r.2.1, r.2.2 ++ [.cells sz r.1]) else none else some (.lit 0 n r.1, r.2)
      | _ => none
    | .pre b m0 n cs => match X.1[b]? with
      | some (.bld l m sz) => if m ≠ m0 then none else if b < lo then (if clean.cleanL d cs then some (v, X) else none) else if l < d then none else
          (resL (resV th lo d k) (X.1.set b .dead, X.2) cs).bind fun r =>
            if th then if cs.length = n * sz then some (.sl (lo + r.2.2.length) 0 n, r.2.1, r.2.2 ++ [.cells sz r.1]) else none else some (.lit 0 n r.1, r.2)
      | _ => none
    | .sl b off n => if b < lo then some (v, X) else match X.1[b]? with
      | some (.cells sz cs) => if cs.length < off + n * sz then none else
          (resL (resV th lo d k) (X.1.set b .dead, X.2) ((cs.drop off).take (n * sz))).bind fun r =>
            if th then if off = 0 ∧ n * sz = cs.length then some (.sl (lo + r.2.2.length) 0 n, r.2.1, r.2.2 ++ [.cells sz r.1]) else none else some (.lit 0 n r.1, r.2)
      | _ => none
    | .agg cs => (resL (resV th lo d k) X cs).map fun r => (.agg r.1, r.2)
    | .tup cs => (resL (resV th lo d k) X cs).map fun r => (.tup r.1, r.2)
    | _ => none
where
  resL (f : Heap × List Blk → V → Option (V × Heap × List Blk)) : Heap × List Blk → List V → Option (List V × Heap × List Blk)
    | X, [] => some ([], X)
    | X, v :: vs => (f X v).bind fun r => (resL f r.2 vs).map fun q => (r.1 :: q.1, q.2)

def depthK : Nat := 8

structure Cx where
  P : Program
  hints : Hints
  fn : FuncId
  ntmps : Nat
  base : Nat
  lk : Lk
  still : Bool := false
  calm : Bool := false
  Γ : FuncId → List V → Heap → Lk → Option (V × Heap)
def Cx.d (c : Cx) : Nat := c.lk.length
def unlocked (lk : Lk) (b : Nat) : Bool := lk.all fun l => !l.contains b
def Cx.mayWrite (c : Cx) (b : Nat) : Bool := decide (c.base ≤ b) || unlocked c.lk b

def evL (T : Nat → V) : List Operand → Option (List V)
  | [] => some []
  | o :: os => (ev T o).bind fun v => (evL T os).map (v :: ·)

/-- A snapshot of which parts may be given back. -/
def partV : V → V
  | .snap b n cs => .pre b n n cs
  | v => v
def partA : V → V
  | .agg cs => .agg (cs.map partV)
  | v => partV v
def lendArg (c : Cx) (m : Mode) (H : Heap) (v : V) : Option (V × List Nat × Heap) :=
  match m with
  | .lent => (lendV (c.d + 1) H depthK v).map fun r => (r.1, r.2, H)
  | .exact => some (v, [], H)
  | .part => some (partA v, [], H)
  | .share => if c.calm then none else (giveV c.base depthK H v).map fun r => (r.1, [], r.2)
/-- What a call locks: what is lent; all of it where nothing is to be written; a growing function's caller locks what is not its own. -/
def Cx.locksFor (c : Cx) (g : FuncId) (L : List Nat) (H : Heap) : List Nat :=
  if c.calm then L ++ List.range H.length else if c.hints.grow g && !c.hints.grow c.fn then L ++ List.range c.base else L
def lendArgs (c : Cx) : List Mode → Heap → List V → Option (List V × List Nat × Heap)
  | _, H, [] => some ([], [], H)
  | ms, H, v :: vs =>
    (lendArg c (ms.headD .lent) H v).bind fun r => (lendArgs c ms.tail r.2.2 vs).map fun q => (r.1 :: q.1, r.2.1 ++ q.2.1, q.2.2)

/-- An element as it comes into a list: what it bears is given up, but where the hints say that it is kept. -/
def embed (c : Cx) (H : Heap) (v : V) : Option (V × Heap) := if c.hints.keep c.fn then some (v, H) else if c.still then (if clean 1 v then some (v, H) else none) else giveV c.base depthK H v

def storeK (c : Cx) (t : TypeId) (H : Heap) (a x : V) : Option Heap :=
  match a with
  | .ptr b off =>
    if c.mayWrite b then
      (if b < c.base then (if c.hints.grow c.fn then if cleanG 1 x then some (x, H) else none else giveV c.base depthK H x) else some (x, H)).bind fun r =>
      match r.2[b]? with
      | some (.cells sz cs) =>
        if szOf c.P t = some r.1.cellsOf.length ∧ off + r.1.cellsOf.length ≤ cs.length ∧ r.1.cellsOf.all V.isCell = true then
          some (r.2.set b (.cells sz (splice cs off r.1.cellsOf)))
        else none
      | _ => none
    else none
  | _ => none

def appendK (c : Cx) (st xt : TypeId) (H : Heap) (s x : V) : Option (V × Heap) :=
  (elemT c.P st).bind fun e => (szOf c.P e).bind fun sz => (bytesOf c.P e).bind fun by_ => (zeroOf c.P e).bind fun z =>
  if (elemT c.P xt).isSome ∧ sz ≠ 0 ∧ z.length = sz then
    (lenK x).bind fun n => (contents H sz x).bind fun xs =>
    if xs.length = n * sz ∧ xs.all V.isCell = true then
      match s with
      | .tl m cs =>
        if n = 0 then some (s, H) else
        if cs.length = m * sz ∧ (m + n) * (by_ + 1) ≤ 70368744177664 then some (.snap H.length (m + n) (cs ++ xs), H ++ [.bld c.d (m + n) sz]) else none
      | .snap b m cs =>
        if n = 0 then some (s, H) else
        match H[b]? with
        | some (.bld l m' sz') =>
          if cs.length = m * sz ∧ (m + n) * (by_ + 1) ≤ 70368744177664 ∧ m' = m ∧ sz' = sz ∧ c.mayWrite b = true then
            some (.snap b (m + n) (cs ++ xs), H.set b (.bld l (m + n) sz)) else none
        | _ => none
      | _ => none
    else none
  else none

/-- The zero of a list as an element: an empty list for ever. -/
def nilLit : V → V
  | .tl 0 [] => .lit 0 0 []
  | v => v
/-- The zero cells of a list's element: where nothing is given up (kp), an empty list stays one that may be appended to. -/
def nilIf (kp : Bool) (v : V) : V := if kp then v else nilLit v
def makeK (P : Program) (kp : Bool) (t : TypeId) (H : Heap) (n m : V) : Option (V × Heap) :=
  match n, m with
  | .int .i64 a, .int .i64 b =>
    (elemT P t).bind fun e => (szOf P e).bind fun sz => (bytesOf P e).bind fun by_ => (zeroOf P e).bind fun z =>
    if a = b ∧ 0 ≤ a ∧ a * (by_ + 1) ≤ 70368744177664 ∧ z.length = sz ∧ sz ≠ 0 then
      some (.sl H.length 0 a.toNat, H ++ [.cells sz (List.replicate a.toNat (z.map (nilIf kp))).flatten])
    else none
  | _, _ => none

def partsK (place : Nat → Option (Nat × Nat)) (cells : List V) : List (Nat × V) → Option (List V)
  | [] => some cells
  | (i, v) :: rest => match place i with
    | none => none
    | some (off, sz) => if v.cellsOf.length ≠ sz ∨ cells.length < off + sz ∨ v.cellsOf.all V.isCell = false then none else partsK place (splice cells off v.cellsOf) rest

def embedL (c : Cx) : Heap → List (Nat × V) → Option (List (Nat × V) × Heap)
  | H, [] => some ([], H)
  | H, (i, v) :: r => (embed c H v).bind fun x => (embedL c x.2 r).map fun q => ((i, x.1) :: q.1, q.2)

def evP (T : Nat → V) : List (Nat × Operand) → Option (List (Nat × V))
  | [] => some []
  | (i, o) :: os => (ev T o).bind fun v => (evP T os).map ((i, v) :: ·)

/-- Values that bear no memory. -/
def isPlain : V → Bool
  | .int .. | .bool _ | .str _ => true
  | .agg cs => cs.all fun | .int .. | .bool _ | .str _ => true | _ => false
  | _ => false
def plainC : V → Value
  | .int k n => .int k n
  | .bool b => .bool b
  | .str s => .string s
  | _ => .pointer none
def plainV : V → Value
  | .agg cs => .agg (cs.map plainC).toArray
  | v => plainC v
/-- The entries of a map in memory: none is ever deleted. -/
def esOf (kvs : List (V × V)) : Array MapEntry := (kvs.zipIdx.map fun x => { key := plainV x.1.1, val := plainV x.1.2, born := x.2 }).toArray
inductive KT where | one (q : Sc) | many (ks : List Sc)
  deriving DecidableEq
def keyT (P : Program) (k : TypeId) : Option KT := match scalarT P k with
  | some q => some (.one q)
  | none => (flatT P k).bind fun ks => if ks.all (fun q => decide (q ≠ .s)) then some (.many ks) else none
def eqKey : KT → V → V → Option Bool
  | .one .s, .str a, .str b => some (a == b)
  | .one .s, _, _ => none
  | .one q, x, y => eqCell q x y
  | .many ks, .agg xs, .agg ys => if xs.length = ks.length ∧ ys.length = ks.length then eqCells ks xs ys else none
  | _, _, _ => none
def findM (kt : KT) (k : V) : List (V × V) → Nat → Option (Option (Nat × V))
  | [], _ => some none
  | e :: es, i => (eqKey kt k e.1).bind fun b => if b then some (some (i, e.2)) else findM kt k es (i + 1)
def mapK (P : Program) (t : TypeId) : Option (KT × TypeId) := match P.underlying t with
  | some (.map k e) => (keyT P k).map fun kt => (kt, e)
  | _ => none
def zero1 (P : Program) (e : TypeId) : Option V := ((P.info? e).bind (·.zero)).bind ofValue
def lookK (P : Program) (t : TypeId) (H : Heap) (x k : V) (ok : Bool) : Option V :=
  match x with
  | .mref b => match H[b]? with
    | some (.mp kvs) => (mapK P t).bind fun q => if isPlain k ∧ eqKey q.1 k k = some true then (findM q.1 k kvs 0).bind fun
        | some (_, v) => some (if ok then .tup [v, .bool true] else v)
        | none => (zero1 P q.2).map fun z => if ok then .tup [z, .bool false] else z
      else none
    | _ => none
  | _ => none
def updK (c : Cx) (t : TypeId) (H : Heap) (x k v : V) : Option Heap :=
  match x with
  | .mref b => match H[b]? with
    | some (.mp kvs) => (mapK c.P t).bind fun q => if isPlain k ∧ isPlain v ∧ eqKey q.1 k k = some true ∧ c.mayWrite b = true then (findM q.1 k kvs 0).map fun
        | some (i, _) => H.set b (.mp (kvs.set i (k, v)))
        | none => H.set b (.mp (kvs ++ [(k, v)]))
      else none
    | _ => none
  | _ => none
/-- An entry that is to be written: its value, its birth. -/
def entryK (c : Cx) (t : TypeId) (H : Heap) (x k : V) : Option (V × Heap) :=
  match x with
  | .mref b => match H[b]? with
    | some (.mp kvs) => (mapK c.P t).bind fun q => if isPlain k ∧ eqKey q.1 k k = some true ∧ c.mayWrite b = true then (findM q.1 k kvs 0).bind fun
        | some (i, v) => some (.tup [v, .int .i64 i], H.set b (.mp (kvs.set i (k, v))))
        | none => (zero1 c.P q.2).bind fun z => if isPlain z then some (.tup [z, .int .i64 kvs.length], H.set b (.mp (kvs ++ [(k, z)]))) else none
      else none
    | _ => none
  | _ => none
def enterK (c : Cx) (H : Heap) (x stamp v : V) : Option Heap :=
  match x, stamp with
  | .mref b, .int _ i => match H[b]? with
    | some (.mp kvs) => if 0 ≤ i ∧ isPlain v ∧ c.mayWrite b = true then (kvs[i.toNat]?).map fun e => H.set b (.mp (kvs.set i.toNat (e.1, v))) else none
    | _ => none
  | _, _ => none

/-- The bounds of a slice expression without a third one. -/
def boundK (T : Nat → V) (n : Nat) : Option Operand → Option Nat
  | none => some n
  | some o => match ev T o with
    | some (.int _ i) => if 0 ≤ i then some i.toNat else none
    | _ => none

/-- What an operation gives: a value for its slot, and the heap behind it. -/
def opK (c : Cx) (o : Oper) (S : St) : Option (V × Heap) :=
  let q (x : Option V) : Option (V × Heap) := x.map fun v => (v, S.H)
  match o.op with
  | .move x | .assign x => q (ev S.T x)
  | .pick cnd a b => match ev S.T cnd with
    | some (.bool true) => q (ev S.T a)
    | some (.bool false) => q (ev S.T b)
    | _ => none
  | .alloc t => (szOf c.P t).bind fun sz => (zeroOf c.P t).bind fun z => some (.ptr S.H.length 0, S.H ++ [.cells sz z])
  | .box t x => (szOf c.P t).bind fun sz => (ev S.T x).bind fun v => if v.cellsOf.all V.isCell then some (.ptr S.H.length 0, S.H ++ [.cells sz v.cellsOf]) else none
  | .build t parts => (evP S.T parts.toList).bind fun ps => (zeroOf c.P t).bind fun z => (placesK c.P t).bind fun pl =>
      q ((partsK (fun i => pl[i]?) z ps).map .agg)
  | .buildSlice t n parts => (evP S.T parts.toList).bind fun ps => (embedL c S.H ps).bind fun r =>
      (elemT c.P t).bind fun e => (szOf c.P e).bind fun sz => (zeroOf c.P e).bind fun z =>
      if z.length = sz ∧ sz ≠ 0 ∧ n * sz ≤ 1048576 then
        (partsK (fun i => some (i * sz, sz)) (List.replicate n z).flatten r.1).map fun cs => (.tl n cs, r.2)
      else none
  | .load t a => (ev S.T a).bind fun v => q (loadK c.P t S.H v)
  | .store t a x => (ev S.T a).bind fun p => (ev S.T x).bind fun v => (storeK c t S.H p v).map fun H => (undefV, H)
  | .nilCheck x => match ev S.T x with
    | some (.ptr b off) => q (some (.ptr b off))
    | some (.lp lv cs off) => q (some (.lp lv cs off))
    | _ => none
  | .binOp op t x y _ => (ev S.T x).bind fun a => (ev S.T y).bind fun b => q (binK c.P op t a b)
  | .unOp op _ x => (ev S.T x).bind fun a => q (unK op a)
  | .convert src dst x => match c.P.underlying src, c.P.underlying dst, ev S.T x with
    | some (.int _), some (.int k), some (.int _ n) => q (some (.int k (k.wrap n)))
    | some (.slice e), some .string, some (.tl n cs) => if n = cs.length ∧ u8T c.P e = true then q ((bytesV .empty cs).map .str) else none
    | _, _, _ => none
  | .makeFunc fn first caps => match fn, first.toList with
    | .func f, [] => (evL S.T caps.toList).bind fun vs => q (some (.fn f vs))
    | _, _ => none
  | .makeSlice t n m => (ev S.T n).bind fun a => (ev S.T m).bind fun b => makeK c.P (c.hints.keep c.fn) t S.H a b
  | .slice t x lo hi mx => match mx with
    | none => (ev S.T x).bind fun v => (lenK v).bind fun n => (boundK S.T 0 lo).bind fun l => (boundK S.T n hi).bind fun h =>
      (elemT c.P t).bind fun e => (szOf c.P e).bind fun sz =>
      if l ≤ h ∧ h ≤ n then
        match v with
        | .lit lv _ cs => q (some (.lit lv (h - l) ((cs.drop (l * sz)).take ((h - l) * sz))))
        | .tl _ cs => q (some (.lit 0 (h - l) ((cs.drop (l * sz)).take ((h - l) * sz))))
        | .snap _ _ cs => q (some (.lit c.d (h - l) ((cs.drop (l * sz)).take ((h - l) * sz))))
        | .pre b m0 _ cs => q (if l = 0 then some (.pre b m0 h (cs.take (h * sz))) else none)
        | .sl b off _ => q (some (if l = h then .lit 0 0 [] else .sl b (off + l * sz) (h - l)))
        | _ => none
      else none
    | some mx => match lo, hi with
      | none, some hi => (ev S.T x).bind fun v => (lenK v).bind fun _ => (elemT c.P t).bind fun e => (szOf c.P e).bind fun _ =>
        match ev S.T hi, ev S.T mx with
        | some (.int _ i), some (.int _ j) => if i = 0 ∧ j = 0 then q (some (.tl 0 [])) else none
        | _, _ => none
      | _, _ => none
  | .fieldAddr s x f => (fieldOff c.P s f).bind fun off => match ev S.T x with
    | some (.ptr b o) => q (some (.ptr b (o + off)))
    | some (.lp lv cs o) => q (some (.lp lv cs (o + off)))
    | _ => none
  | .field s x f => (fieldOff c.P s f).bind fun off => match c.P.underlying s with
    | some (.struct fs) => match fs[f]?, ev S.T x with
      | some g, some (.agg cs) => q (readCells c.P g.type cs off)
      | _, _ => none
    | _ => none
  | .indexAddr t x i => (elemT c.P t).bind fun e => (szOf c.P e).bind fun sz => (ev S.T x).bind fun v => match ev S.T i with
    | some (.int _ n) => (lenK v).bind fun len => if 0 ≤ n ∧ n < len then
        match v with
        | .lit lv _ cs => q (some (.lp lv cs (n.toNat * sz)))
        | .tl _ cs => q (some (.lp 0 cs (n.toNat * sz)))
        | .snap _ _ cs => q (some (.lp c.d cs (n.toNat * sz)))
        | .pre _ _ _ cs => q (some (.lp c.d cs (n.toNat * sz)))
        | .sl b off _ => q (some (.ptr b (off + n.toNat * sz)))
        | _ => none
      else none
    | _ => none
  | .index t x i => match c.P.underlying t, ev S.T x, ev S.T i with
    | some .string, some (.str s), some (.int _ n) => if 0 ≤ n then q ((s[n.toNat]?).map fun b => .int .u8 b.toNat) else none
    | _, _, _ => none
  | .extract x i => match ev S.T x with
    | some (.tup vs) => q vs[i]?
    | _ => none
  | .makeMap _ none => some (.mref S.H.length, S.H ++ [.mp []])
  | .lookup t x k ok => (ev S.T x).bind fun m => (ev S.T k).bind fun kv => q (lookK c.P t S.H m kv ok)
  | .mapUpdate t x k v => (ev S.T x).bind fun m => (ev S.T k).bind fun kv => (ev S.T v).bind fun w => (updK c t S.H m kv w).map fun H => (undefV, H)
  | .mapEntry t x k => (ev S.T x).bind fun m => (ev S.T k).bind fun kv => entryK c t S.H m kv
  | .entryStore _ x st v => (ev S.T x).bind fun m => (ev S.T st).bind fun s => (ev S.T v).bind fun w => (enterK c S.H m s w).map fun H => (undefV, H)
  | .call k => match k.callee with
    | .builtin .len => match k.args.toList, k.argTypes[0]? with
      | [x], some t => match c.P.underlying t, ev S.T x with
        | some .string, some (.str s) => q (some (.int .i64 s.size))
        | some (.slice _), some v => (lenK v).bind fun n => q (some (.int .i64 n))
        | _, _ => none
      | _, _ => none
    | .builtin .append => match k.args.toList, k.argTypes.toList with
      | [s, x], [st, xt] => (ev S.T s).bind fun a => (ev S.T x).bind fun b => appendK c st xt S.H a b
      | _, _ => none
    | .builtin .min => match k.args.toList with
      | [x, y] => match ev S.T x, ev S.T y with
        | some (.int k a), some (.int _ b) => q (some (.int k (if b < a then b else a)))
        | _, _ => none
      | _ => none
    | .builtin .max => match k.args.toList with
      | [x, y] => match ev S.T x, ev S.T y with
        | some (.int k a), some (.int _ b) => q (some (.int k (if b > a then b else a)))
        | _, _ => none
      | _ => none
    | .value f => match ev S.T f with
      | some (.fn g caps) => (evL S.T k.args.toList).bind fun vs =>
        (lendArgs c (c.hints.modes g) S.H (vs ++ caps)).bind fun r =>
          c.Γ g r.1 r.2.2 (c.lk ++ [c.locksFor g r.2.1 r.2.2])
      | _ => none
    | _ => none
  | _ => none

def stepK (c : Cx) (o : Oper) (S : St) : Option St :=
  match o.dst with
  | none => (opK c o S).map fun r => { S with H := r.2 }
  | some d => if d < c.ntmps then (opK c o S).map fun r => { S with H := r.2 }.set d r.1 else none

/-- Is an operation wanted, as its guard stands? -/
def wantedK (ops : Array Oper) (T : Nat → V) (o : Oper) : Option Bool :=
  match o.guard with
  | none => some true
  | some (j, want) => match (ops[j]?).bind (·.dst) with
    | some t => match T t with
      | .bool b => some (b == want)
      | .tup [] => some false
      | _ => none
    | none => none

/-- An operation of a region, if it is wanted; what is not wanted yields nothing. -/
def gstepK (c : Cx) (ops : Array Oper) (o : Oper) (S : St) : Option St :=
  (wantedK ops S.T o).bind fun b =>
    if b then stepK c o S else match o.dst with | some d => if d < c.ntmps then some (S.set d undefV) else none | none => some S
def opsK (cf : Nat → Cx) (ops : Array Oper) : List Nat → St → Option St
  | [], S => some S
  | i :: rest, S => match ops[i]? with
    | none => none
    | some o => (gstepK (cf i) ops o S).bind fun S' => opsK cf ops rest S'

/-- What an operation gives depends on its operands alone. -/
def isPure (o : Oper) : Bool :=
  match o.op with
  | .move _ | .assign _ | .pick .. | .build .. | .buildSlice .. | .nilCheck _ | .binOp .. | .unOp .. | .convert .. | .makeFunc .. | .slice .. | .fieldAddr .. | .field .. | .indexAddr .. | .index .. | .extract .. => true
  | .call k => match k.callee with
    | .builtin .len | .builtin .min | .builtin .max => true
    | _ => false
  | _ => false
def isLoad (o : Oper) : Bool := match o.op with | .load .. | .lookup .. => true | _ => false
/-- It leaves every block of cells as it was (a call, where it is calm). -/
def keepsCells (o : Oper) : Bool :=
  match o.op with
  | .alloc _ | .box .. | .makeSlice .. | .makeMap .. => true
  | .call k => match k.callee with
    | .builtin .append | .value _ => true
    | _ => false
  | _ => false
def edgesK (ops : Array Oper) (i : Nat) : List Nat := match ops[i]? with | some o => (o.after.toList.filter (Region.binds .any)).map (·.on) | none => []
/-- For each operation, all that come before it. -/
def ancK (ops : Array Oper) : List (List Nat) :=
  (List.range ops.size).foldl (fun tab i => tab ++ [((edgesK ops i) ++ (edgesK ops i).flatMap fun e => tab.getD e []).eraseDups]) []
def pickNext (ops : Array Oper) (tab : List (List Nat)) (done : List Nat) (left : List Nat) : Option Nat :=
  let ready := left.filter fun i => (edgesK ops i).all fun e => done.contains e
  match ready.find? (fun i => match ops[i]? with | some o => isPure o || isLoad o | none => false) with
  | some i => some i
  | none => ready.head?
def ordGo (ops : Array Oper) (tab : List (List Nat)) : Nat → List Nat → List Nat → List Nat
  | 0, done, _ => done.reverse
  | n + 1, done, left => match pickNext ops tab done left with
    | some i => ordGo ops tab n (i :: done) (left.filter (· != i))
    | none => done.reverse
/-- The canonical order of a region that draws: what writes nothing first. -/
def ordK (ops : Array Oper) : List Nat := ordGo ops (ancK ops) ops.size [] (List.range ops.size)
/-- 'm[k]' and the entry at the same key: to make the entry does not change what is read. -/
def isEntryFor (x y : Oper) : Bool :=
  match x.op, y.op with
  | .lookup t (.tmp a) (.tmp k) false, .mapEntry t' (.tmp a') (.tmp k') => t == t' && a == a' && k == k'
  | _, _ => false
def isNone {α : Type} (x : Option α) : Bool := match x with | none => true | some _ => false
def swapOk (ops : Array Oper) (x y : Oper) : Bool :=
  Oper.apart ops x y && Oper.apart ops y x && (isPure x || isPure y || (isLoad x && (isLoad y || keepsCells y)) || (isEntryFor x y && isNone x.guard && isNone y.guard))
/-- It makes a block of zeros. -/
def isMaker (o : Oper) : Bool := match o.op with | .alloc _ | .makeSlice .. => true | _ => false
/-- 'm' makes a block; it may be run ahead of 'j', and what hangs on it comes behind 'j'. -/
def pendOk (ops : Array Oper) (tab : List (List Nat)) (j m : Nat) : Bool :=
  match ops[j]?, ops[m]? with
  | some x, some y => isMaker y && isNone y.guard && !isNone y.dst && Oper.apart ops x y && Oper.apart ops y x && (List.range ops.size).all fun k => !(tab.getD k []).contains m || (tab.getD k []).contains j
  | _, _ => false
/-- Is a call to leave all blocks as they are? -/
def calmAt (ops : Array Oper) (tab : List (List Nat)) (i : Nat) : Bool :=
  (List.range ops.size).any fun j => (match ops[j]? with | some o => isLoad o | none => false) && !(tab.getD i []).contains j && !(tab.getD j []).contains i
/-- A call of a function's value. -/
def isCall (o : Oper) : Bool :=
  match o.op with
  | .call ⟨.value _, _, _⟩ => true
  | _ => false
/-- Whoever writes a temp comes before 'j'. -/
def finalT (ops : Array Oper) (tab : List (List Nat)) (j a : Nat) : Bool := (List.range ops.size).all fun k => (tab.getD j []).contains k || match ops[k]? with | some o => o.dst != some a | none => true
/-- A load and a store that no order binds, and the temps of their places: the places have to lie apart. -/
def lsPair (ops : Array Oper) (tab : List (List Nat)) (j i : Nat) : Option (Nat × Nat) :=
  match ops[j]?, ops[i]? with
  | some x, some y => match x.op, y.op with
    | .load _ (.tmp a), .store _ (.tmp b) _ => if isNone x.guard && isNone y.guard && Oper.apart ops x y && Oper.apart ops y x && finalT ops tab j a && finalT ops tab i b && x.dst != some a && isNone y.dst then some (a, b) else none
    | _, _ => none
  | _, _ => none
def placesOk (base : Nat) : V → V → Bool
  | .ptr p _, .ptr q _ => p != q && decide (base ≤ q)
  | .lp .., .ptr q _ => decide (base ≤ q)
  | _, _ => false
/-- All such pairs of a region. -/
def lsAll (ops : Array Oper) (tab : List (List Nat)) : List (Nat × Nat) :=
  (List.range ops.size).flatMap fun i => (List.range ops.size).filterMap fun j => if (tab.getD i []).contains j || (tab.getD j []).contains i then none else lsPair ops tab j i
def partOk (ops : Array Oper) (base : Nat) (T : Nat → V) : Bool := (lsAll ops (ancK ops)).all fun p => placesOk base (T p.1) (T p.2)
def drawPairs (ops : Array Oper) (tab : List (List Nat)) : List Nat → Bool
  | [] => true
  | j :: l => (l.all fun i => i != j && !(tab.getD j []).contains i && ((tab.getD i []).contains j || pendOk ops tab j i || (lsPair ops tab j i).isSome || match ops[j]?, ops[i]? with | some x, some y => swapOk ops x y && (!isLoad x || !isCall y || calmAt ops tab i) | _, _ => false)) && drawPairs ops tab l
/-- The check that a region's order does not matter. -/
def drawOk (ops : Array Oper) : Bool :=
  let tab := ancK ops
  let ord := ordK ops
  (List.range ops.size).all (ord.contains ·) && ord.all (· < ops.size) &&
    (List.range ops.size).all (fun i => (edgesK ops i).all (· < i) && (tab.getD i []).all fun j => (edgesK ops i).any fun e => e == j || (tab.getD e []).contains j) && drawPairs ops tab ord
def drawCx (c : Cx) (ops : Array Oper) (i : Nat) : Cx := { c with still := true, calm := calmAt ops (ancK ops) i }

inductive X where | normal | exit (id : Nat) | ret
  deriving DecidableEq

def iterK (f : St → Option (X × St)) : Nat → St → Option (X × St)
  | 0, _ => none
  | n + 1, S => match f S with
    | some (.normal, S') => iterK f n S'
    | r => r

def execK (c : Cx) (n : Nat) : Code → St → Option (X × St)
  | .skip, S => some (.normal, S)
  | .region _ ops draw, S => (if draw then (if drawOk ops then (opsK (drawCx c ops) ops (ordK ops) S).bind fun S' => if partOk ops c.base S'.T then some S' else none else none) else opsK (fun _ => c) ops (List.range ops.size) S).map fun S' => (.normal, S')
  | .seq a b, S => match execK c n a S with
    | some (.normal, S') => execK c n b S'
    | r => r
  | .cond x t e, S => match ev S.T x with
    | some (.bool true) => execK c n t S
    | some (.bool false) => execK c n e S
    | _ => none
  | .block id a, S => match execK c n a S with
    | some (.exit i, S') => if i = id then some (.normal, S') else some (.exit i, S')
    | r => r
  | .loop a, S => iterK (execK c n a) n S
  | .exit id, S => some (.exit id, S)
  | .ret, S => some (.ret, S)
  | _, _ => none

def resultsK (P : Program) (H : Heap) (T : Nat → V) : List ResultVar → Option (List V)
  | [] => some []
  | .tmp t :: r => (resultsK P H T r).map (T t :: ·)
  | .cell a t :: r => (loadK P t H (T a)).bind fun v => (resultsK P H T r).map (v :: ·)
def oneOf : List V → V
  | [v] => v
  | vs => .tup vs

def argsT (vs : List V) : Nat → V := fun i => vs.getD i undefV

/-- The blocks of a growing call, as the caller sees them: levels lowered; what bears a loan is forgotten. -/
def relevK (d : Nat) : Blk → Blk
  | .bld l n sz => .bld (min l (d - 1)) n sz
  | .cells sz cs => if cs.all (cleanG d) then .cells sz cs else .dead
  | x => x
/-- How a call ends: what of its heap is left. -/
def leaveK (h : Hints) (k : FuncId) (base d : Nat) (v : V) (H : Heap) : Option (V × Heap) :=
  if h.grow k then
    if cleanG d v then some (v, H.take base ++ (H.drop base).map (relevK d)) else none
  else (resV (h.thaw k) base d depthK (H, []) v).map fun r => (r.1, r.2.1.take base ++ r.2.2)

/-- A body that asks first whether a list is nil: what is ahead of it, what comes if it is, what comes behind. -/
structure NilAsk where
  R0 : Code
  i : Nat
  o1 : Oper
  o2 : Oper
  p : Nat
  z : Nat
  q : Nat
  t : TypeId
  t2 : TypeId
  A : Code
  B : Code
def nilOps (i : Nat) (R0 A B : Code) (q' : Nat) : List Oper → Option NilAsk
  | [o1, o2] => match o1.dst, o1.op, o1.guard, o2.dst, o2.op, o2.guard with
    | some p, .move (.tmp z), none, some q, .binOp .eql t (.tmp p') (.const (.slice none 0 0)) t2, none => if p = p' ∧ q = q' then some ⟨R0, i, o1, o2, p, z, q, t, t2, A, B⟩ else none
    | _, _, _, _, _, _ => none
  | _ => none
def nilShape : Code → Option NilAsk
  | .seq R0 (.seq (.seq (.region i ops false) (.cond (.tmp q') A .skip)) B) => nilOps i R0 A B q' ops.toList
  | _ => none
/-- What a body's end yields. -/
def finK (P : Program) (rs : List ResultVar) : Option (X × St) → Option (List V × Heap)
  | some (.normal, S) | some (.ret, S) => (resultsK P S.H S.T rs).map fun vs => (vs, S.H)
  | _ => none
/-- One of the two ways behind the asking. -/
def wayN (c : Cx) (n : Nat) (rs : List ResultVar) (N : NilAsk) (S : St) (b : Bool) : Option (List V × Heap) :=
  finK c.P rs (execK c n (if b then .seq N.A N.B else N.B) ((S.set N.p (S.T N.z)).set N.q (.bool b)))
open Classical in
/-- A body; one that asks whether a list is nil yields the same both ways, where that is not known. -/
noncomputable def execN (c : Cx) (n : Nat) (rs : List ResultVar) (body : Code) (S : St) : Option (List V × Heap) :=
  match nilShape body with
  | none => finK c.P rs (execK c n body S)
  | some N => match execK c n N.R0 S with
    | some (.normal, S0) => if N.p < c.ntmps ∧ N.q < c.ntmps ∧ N.p ≠ N.q ∧ (elemT c.P N.t).isSome = true then
        match lenK (S0.T N.z) with
        | some (_ + 1) => wayN c n rs N S0 false
        | some 0 => if wayN c n rs N S0 true = wayN c n rs N S0 false then wayN c n rs N S0 false else none
        | none => none
      else none
    | _ => none

noncomputable def runK (P : Program) (h : Hints) : Nat → FuncId → List V → Heap → Lk → Option (V × Heap)
  | 0, _, _, _, _ => none
  | n + 1, k, args, H, lk => match P.funcs[k]? with
    | some fn => match fn.body with
      | some body =>
        if args.length ≤ fn.ntmps ∧ (fn.name == "runtime.NumGoroutine") = false then
          let c : Cx := { P, hints := h, fn := k, ntmps := fn.ntmps, base := H.length, lk, Γ := runK P h n }
          (execN c n fn.results.toList body { T := argsT args, H }).bind fun r => leaveK h k H.length lk.length (oneOf r.1) r.2
        else none
      | none => none
    | none => none

end Go.Proofs.Ytblodpbcinkehaa.K
