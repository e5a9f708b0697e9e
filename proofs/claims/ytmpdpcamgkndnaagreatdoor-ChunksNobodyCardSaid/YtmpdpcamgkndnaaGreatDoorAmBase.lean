/- The abstract machine: values, heaps, operations. It is deterministic but for the order in which a map is gone through: no tape, no draws, its own names for blocks, slices whose capacity may be known only from below. Conditions: none; definitions alone. -/
import GoSem.Step
set_option linter.constructorNameAsVariable false
set_option linter.unusedSimpArgs false
set_option linter.unusedVariables false
namespace Go.Am

/-- Abstract values. top: nothing is known. sl: address, length, capacity (known from below where the last is some: the cells of an element). -/
inductive AV where
  | top
  | bool (b : Bool)
  | int (k : IntKind) (n : Int)
  | str (l : List UInt8)
  | ptr (a : Option (Nat × Nat))
  | sl (a : Option (Nat × Nat)) (len cap : Nat) (ex : Option Nat)
  | map (r : Option Nat)
  | fn (f : Nat) (caps : List AV)
  | yield (l : Nat)
  | nilf
  | agg (l : List AV)
  | tup (l : List AV)
  deriving Inhabited

def undefA : AV := .tup []

def AV.cells : AV → List AV
  | .agg l => l
  | v => [v]

/-- May it lie in one cell? -/
def AV.flat : AV → Bool
  | .agg _ | .tup _ | .top => false
  | _ => true

/-- A constant of the code as an abstract value; top where it is none of the kinds that are served. -/
def AV.ofV1 : Value → AV
  | .bool b => .bool b
  | .int k n => .int k n
  | .string s => .str s.data.toList
  | .pointer none => .ptr none
  | .slice none l c => if l = 0 ∧ c = 0 then .sl none 0 0 none else .top
  | .map none => .map none
  | .nilFunc => .nilf
  | _ => .top
def AV.ofV : Value → AV
  | .agg cs => .agg (cs.toList.map AV.ofV1)
  | .tuple vs => .tup (vs.toList.map AV.ofV1)
  | v => AV.ofV1 v

/-! ### A map from numbers: a binary tree -/
inductive Tr (α : Type) where
  | nil
  | node (l : Tr α) (v : Option α) (r : Tr α)

def Tr.get {α : Type} : Tr α → Nat → Option α
  | .nil, _ => none
  | .node l v r, n => if n = 0 then v else if n % 2 = 1 then l.get (n / 2) else r.get (n / 2 - 1)

def Tr.set {α : Type} : Nat → Tr α → Nat → Option α → Tr α
  | 0, t, _, _ => t
  | f + 1, t, n, b =>
    match t with
    | .nil => if n = 0 then .node .nil b .nil else if n % 2 = 1 then .node (Tr.set f .nil (n / 2) b) none .nil else .node .nil none (Tr.set f .nil (n / 2 - 1) b)
    | .node l v r => if n = 0 then .node l b r else if n % 2 = 1 then .node (Tr.set f l (n / 2) b) v r else .node l v (Tr.set f r (n / 2 - 1) b)

/-! ### Code -/
inductive AO where
  | t (i : Nat)
  | c (v : AV)
  | g (n : Nat)
  | f (n : Nat)
  deriving Inhabited

def AO.ev (t : List AV) : AO → AV
  | .t i => t.getD i undefA
  | .c v => v
  | .g n => .ptr (some (n, 0))
  | .f n => .fn n []

/-- Kinds of cells that are compared one by one. -/
inductive FK where
  | int | bool | str
  deriving DecidableEq, Inhabited

inductive EqK where
  | bool | ptr | slice | map | func
  | flat (ks : List FK)
  deriving Inhabited

inductive AOp where
  | mov (x : AO)
  | pick (c a b : AO)
  | build (z : List AV) (parts : List (Nat × Nat × AO))
  | load (x : AO)
  | loadN (n : Nat) (x : AO)
  | nilCheck (x : AO)
  | bin (op : BinOp) (x y : AO)
  | eq (neg : Bool) (k : EqK) (x y : AO)
  | un (op : UnOp) (x : AO)
  | conv (k : IntKind) (x : AO)
  | same (x : AO)
  | bytesStr (x : AO)
  | s2a (n : Nat) (x : AO)
  | mkFn (f : Nat) (caps : List AO)
  | sliceStr (x : AO) (lo hi : Option AO)
  | sliceSl (size : Nat) (x : AO) (lo hi mx : Option AO)
  | sliceArr (n size : Nat) (x : AO) (lo hi mx : Option AO)
  | fieldAddr (off : Nat) (x : AO)
  | field1 (off : Nat) (x : AO)
  | fieldN (off n : Nat) (x : AO)
  | idxAddrArr (len size : Nat) (x i : AO)
  | idxAddrSl (size : Nat) (x i : AO)
  | idxArr1 (len : Nat) (x i : AO)
  | idxArrN (len n : Nat) (x i : AO)
  | idxStr (x i : AO)
  | lookup (kd : FK) (zero : AV) (x k : AO) (ok : Bool)
  | entry (it : AO)
  | ext (x : AO) (i : Nat)
  | len (k : Nat) (x : AO)
  | lenC (n : Nat)
  | mn (xs : List AO)
  | mx (xs : List AO)
  | cmpB (x y : AO)
  | alloc (e : Nat) (z : List AV)
  | box (e : Nat) (x : AO)
  | buildSl (e len : Nat) (z : List AV) (parts : List (Nat × Nat × AO))
  | mkMap
  | mkSl (e size bytes : Nat) (z : List AV) (l c : AO)
  | strBytes (e : Nat) (x : AO)
  | store (n : Nat) (a x : AO)
  | append (e size bytes : Nat) (z : List AV) (x y : AO)
  | copy (size : Nat) (x y : AO)
  | clear (size : Nat) (z : List AV) (x : AO)
  | mapUpd (kd : FK) (m k v : AO)
  | delete (kd : FK) (m k : AO)
  | freeze (x : AO)
  | range (x : AO)
  | next (it : AO)
  | call (f : Nat) (args : List AO)
  | callv (x : AO) (args : List AO)
  deriving Inhabited

inductive Cls where
  | pure | read | alloc | eff
  deriving DecidableEq, Inhabited

def AOp.cls : AOp → Cls
  | .load _ | .loadN .. | .bytesStr _ | .lookup .. | .entry _ | .len .. | .cmpB .. => .read
  | .alloc .. | .box .. | .buildSl .. | .mkMap | .mkSl .. | .strBytes .. => .alloc
  | .store .. | .append .. | .copy .. | .clear .. | .mapUpd .. | .delete .. | .freeze _ | .range _ | .next _ | .call .. | .callv .. => .eff
  | _ => .pure

structure AOpr where
  dst : Option Nat
  op : AOp
  guard : Option (Nat × Bool)
  deriving Inhabited

/-- An operation of a region that draws: its place, and the places that are ahead of it for sure (a number's bits). -/
structure DOpr where
  o : AOpr
  i : Nat
  m : Nat
  deriving Inhabited

inductive AX where
  | normal
  | exit (id : Nat)
  | ret
  deriving DecidableEq, Inhabited

inductive AC where
  | skip
  | reg (ops : List AOpr)
  | regD (m : Nat) (ops : List DOpr)
  | seq (a b : AC)
  | cond (c : AO) (a b : AC)
  | block (id : Nat) (c : AC)
  | loop (c : AC)
  | rangeF (f : AO) (ps : List Nat) (asg body : AC)
  | exit (id : Nat)
  | ret
  | fgt (ts : List Nat) (c : AC)
  deriving Inhabited

inductive ARes where
  | tmp (t : Nat)
  | cell1 (t : Nat)
  | cellN (t n : Nat)
  deriving Inhabited

/-! ### Heaps -/
inductive Blk where
  | cells (e : Nat) (l : List AV) (ro : Bool)
  | map (es : List (AV × AV × Nat)) (clock : Nat)
  | iter (m : Option Nat) (since : Nat) (seen : List Nat) (stepped : Nat)
  | loop (st : LoopState) (pend : Option AX) (tmps : List AV) (ps : List Nat) (asg body : AC) (dfr : Nat)
  | dfr (o : Bool)
  deriving Inhabited

structure Heap where
  next : Nat
  tr : Tr Blk

/-- A function. memo: what a call of it comes to, where that is known ahead (a plain value; the heap stays as it is). -/
structure AFn where
  ntmps : Nat
  res : List ARes
  body : AC
  memo : List AV → Heap → Option AV := fun _ _ => none

def Heap.get (h : Heap) (n : Nat) : Option Blk := if n < h.next then h.tr.get n else none
def Heap.put (h : Heap) (n : Nat) (b : Blk) : Heap := { h with tr := Tr.set (n + 1) h.tr n (some b) }
def Heap.del (h : Heap) (n : Nat) : Heap := { h with tr := Tr.set (n + 1) h.tr n none }
def Heap.new (h : Heap) (b : Blk) : Heap := { next := h.next + 1, tr := Tr.set (h.next + 1) h.tr h.next (some b) }
def Heap.empty : Heap := ⟨0, .nil⟩
/-- Names that are kept free. -/
def Heap.resv (h : Heap) : Nat → Heap
  | 0 => h
  | m + 1 => Heap.resv { next := h.next + 1, tr := Tr.set (h.next + 1) h.tr h.next none } m

/-- Cells of a block. -/
def Heap.cs (h : Heap) (n : Nat) : Option (List AV) :=
  match h.get n with
  | some (.cells _ l _) => some l
  | _ => none

def Heap.ld (h : Heap) (a : Nat × Nat) : Option AV :=
  match h.cs a.1 with
  | some l => l[a.2]?
  | none => none

def Heap.ldN (h : Heap) (a : Nat × Nat) (n : Nat) : Option (List AV) :=
  match h.cs a.1 with
  | some l => if a.2 + n ≤ l.length then some ((l.drop a.2).take n) else none
  | none => none

def splice (l : List AV) (o : Nat) (vs : List AV) : List AV := l.take o ++ vs ++ l.drop (o + vs.length)

def Heap.stN (h : Heap) (a : Nat × Nat) (vs : List AV) : Option Heap :=
  match vs with
  | [] => some h
  | _ => match h.get a.1 with
    | some (.cells e l false) => if a.2 + vs.length ≤ l.length ∧ vs.all AV.flat = true then some (h.put a.1 (.cells e (splice l a.2 vs) false)) else none
    | _ => none

/-! ### Plain operations -/
def abin (op : BinOp) : AV → AV → Option AV
  | .int k a, .int k' b =>
    match op with
    | .shl => if b < 0 then none else some (.int k (k.wrap (a * 2 ^ (min b.toNat k.bits))))
    | .shr => if b < 0 then none else some (.int k (a.fdiv (2 ^ (min b.toNat k.bits))))
    | op =>
      if k = k' then
        match op with
        | .add => some (.int k (k.wrap (a + b)))
        | .sub => some (.int k (k.wrap (a - b)))
        | .mul => some (.int k (k.wrap (a * b)))
        | .quo => if b = 0 then none else some (.int k (k.wrap (a.tdiv b)))
        | .rem => if b = 0 then none else some (.int k (a.tmod b))
        | .and => some (.int k (k.wrap (BitVec.ofInt k.bits a &&& BitVec.ofInt k.bits b).toNat))
        | .or => some (.int k (k.wrap (BitVec.ofInt k.bits a ||| BitVec.ofInt k.bits b).toNat))
        | .xor => some (.int k (k.wrap (BitVec.ofInt k.bits a ^^^ BitVec.ofInt k.bits b).toNat))
        | .andNot => some (.int k (k.wrap (BitVec.ofInt k.bits a &&& ~~~BitVec.ofInt k.bits b).toNat))
        | .eql => some (.bool (a == b))
        | .neq => some (.bool (a != b))
        | .lss => some (.bool (a < b))
        | .leq => some (.bool (a ≤ b))
        | .gtr => some (.bool (a > b))
        | .geq => some (.bool (a ≥ b))
        | _ => none
      else none
  | .str a, .str b =>
    match op with
    | .add => if a.length + b.length ≤ 2 ^ 62 then some (.str (a ++ b)) else none
    | .eql => some (.bool (a == b))
    | .neq => some (.bool (!(a == b)))
    | .lss => some (.bool (Op.bytesLess a b))
    | .leq => some (.bool (Op.bytesLess a b || a == b))
    | .gtr => some (.bool (!(Op.bytesLess a b || a == b)))
    | .geq => some (.bool (!Op.bytesLess a b))
    | _ => none
  | _, _ => none

def fkEq : FK → AV → AV → Option Bool
  | .int, .int k a, .int k' b => if k = k' then some (a == b) else none
  | .bool, .bool a, .bool b => some (a == b)
  | .str, .str a, .str b => some (a == b)
  | _, _, _ => none
def flatEq : List FK → List AV → List AV → Option Bool
  | [], [], [] => some true
  | k :: ks, x :: xs, y :: ys =>
    match fkEq k x y, flatEq ks xs ys with
    | some a, some b => some (a && b)
    | _, _ => none
  | _, _, _ => none

def aeq : EqK → AV → AV → Option Bool
  | .bool, .bool a, .bool b => some (a == b)
  | .ptr, .ptr none, .ptr b => some b.isNone
  | .ptr, .ptr (some _), .ptr none => some false
  | .ptr, .ptr (some a), .ptr (some b) => if a.1 = b.1 then some (a.2 == b.2) else none
  | .slice, .sl none _ _ _, .sl b _ _ _ => some b.isNone
  | .slice, .sl (some _) _ _ _, .sl none _ _ _ => some false
  | .map, .map none, .map b => some b.isNone
  | .map, .map (some _), .map none => some false
  | .func, .nilf, .nilf => some true
  | .func, .nilf, .fn _ _ => some false
  | .func, .fn _ _, .nilf => some false
  | .flat ks, .agg xs, .agg ys => flatEq ks xs ys
  | _, _, _ => none

def aun (op : UnOp) : AV → Option AV
  | .int k n =>
    match op with
    | .neg => some (.int k (k.wrap (0 - n)))
    | .xor => some (.int k (k.wrap (BitVec.ofInt k.bits (if k.signed then -1 else k.max) ^^^ BitVec.ofInt k.bits n).toNat))
    | _ => none
  | .bool b =>
    match op with
    | .not => some (.bool !b)
    | _ => none
  | _ => none

def fillA : List AV → List (Nat × Nat × AV) → Option (List AV)
  | z, [] => some z
  | z, (off, size, v) :: rest => if v.cells.length = size ∧ off + size ≤ z.length ∧ v.cells.all AV.flat = true then fillA (splice z off v.cells) rest else none

/-- A bound of a slice expression: 0 to y. -/
def bnd (y : Nat) : AV → Option Nat
  | .int _ n => if 0 ≤ n ∧ n ≤ y then some n.toNat else none
  | _ => none
def bndO (d y : Nat) (t : List AV) : Option AO → Option Nat
  | some x => bnd y (x.ev t)
  | none => some d

def findK (kd : FK) (k : AV) : List (AV × AV × Nat) → Nat → Option (Option (Nat × AV))
  | [], _ => some none
  | e :: es, i =>
    match fkEq kd k e.1 with
    | some true => some (some (i, e.2.1))
    | some false => findK kd k es (i + 1)
    | none => none

def Heap.mp (h : Heap) (r : Nat) : Option (List (AV × AV × Nat) × Nat) :=
  match h.get r with
  | some (.map es c) => some (es, c)
  | _ => none

def Heap.mapEs (h : Heap) : AV → Option (List (AV × AV × Nat))
  | .map none => some []
  | .map (some r) => (h.mp r).map (·.1)
  | _ => none

def minA : AV → List AV → Option AV
  | x, [] => some x
  | .int k a, .int k' b :: rest => if k = k' then minA (.int k (if b < a then b else a)) rest else none
  | _, _ => none
def maxA : AV → List AV → Option AV
  | x, [] => some x
  | .int k a, .int k' b :: rest => if k = k' then maxA (.int k (if b > a then b else a)) rest else none
  | _, _ => none

def minL : List AV → Option AV
  | [] => none
  | x :: xs => minA x xs
def maxL : List AV → Option AV
  | [] => none
  | x :: xs => maxA x xs

/-- Bytes of a list of cells. -/
def toBytes : List AV → Option (List UInt8)
  | [] => some []
  | .int .u8 n :: rest =>
    match toBytes rest with
    | some l => some (UInt8.ofNat n.toNat :: l)
    | none => none
  | _ :: _ => none
def ofBytes (l : List UInt8) : List AV := l.map fun b => .int .u8 b.toNat

def Heap.slCells (h : Heap) (size : Nat) : AV → Option (List AV)
  | .sl none _ _ _ => some []
  | .sl (some a) n _ _ => if n * size = 0 then some [] else h.ldN a (n * size)
  | .str l => if size = 1 then some (ofBytes l) else none
  | _ => none
def Heap.slBytes (h : Heap) (v : AV) : Option (List UInt8) :=
  match v with
  | .sl .. => (h.slCells 1 v).bind toBytes
  | _ => none

def cmpBytes : List UInt8 → List UInt8 → Int
  | [], [] => 0
  | [], _ :: _ => -1
  | _ :: _, [] => 1
  | a :: x, b :: y => if a < b then -1 else if b < a then 1 else cmpBytes x y

/-- Operations that leave the heap alone. -/
def qv (h : Heap) (t : List AV) : AOp → Option AV
  | .mov x => some (x.ev t)
  | .pick c a b =>
    match c.ev t with
    | .bool b' => some (if b' then a.ev t else b.ev t)
    | _ => none
  | .build z parts => (fillA z (parts.map fun p => (p.1, p.2.1, p.2.2.ev t))).map .agg
  | .load x =>
    match x.ev t with
    | .ptr (some a) => h.ld a
    | _ => none
  | .loadN n x =>
    match x.ev t with
    | .ptr (some a) => (h.ldN a n).map .agg
    | _ => none
  | .nilCheck x =>
    match x.ev t with
    | .ptr (some a) => some (.ptr (some a))
    | .fn f cs => some (.fn f cs)
    | .yield l => some (.yield l)
    | _ => none
  | .bin op x y => abin op (x.ev t) (y.ev t)
  | .eq neg k x y => (aeq k (x.ev t) (y.ev t)).map fun b => .bool (if neg then !b else b)
  | .un op x => aun op (x.ev t)
  | .conv k x =>
    match x.ev t with
    | .int _ n => some (.int k (k.wrap n))
    | _ => none
  | .same x =>
    match x.ev t with
    | .str l => some (.str l)
    | _ => none
  | .bytesStr x => (h.slBytes (x.ev t)).map .str
  | .s2a n x =>
    match x.ev t with
    | .sl (some a) len _ _ => if n ≤ len ∧ 0 < n then some (.ptr (some a)) else none
    | _ => none
  | .mkFn f caps => some (.fn f (caps.map (AO.ev t)))
  | .sliceStr x lo hi =>
    match x.ev t with
    | .str l =>
      match bndO l.length l.length t hi with
      | some h' =>
        match bndO 0 h' t lo with
        | some l' => some (.str ((l.drop l').take (h' - l')))
        | none => none
      | none => none
    | _ => none
  | .sliceSl size x lo hi mx =>
    match x.ev t with
    | .sl a len cap ex =>
      match bndO cap cap t mx with
      | some m =>
        match bndO len m t hi with
        | some h' =>
          match bndO 0 h' t lo with
          | some l' => if h' ≤ m ∧ (mx.isSome = true ∨ ex.getD size = size) then some (.sl (a.map fun p => (p.1, p.2 + l' * size)) (h' - l') (m - l') (if mx.isSome then none else ex)) else none
          | none => none
        | none => none
      | none => none
    | _ => none
  | .sliceArr n size x lo hi mx =>
    match x.ev t with
    | .ptr (some a) =>
      match bndO n n t mx with
      | some m =>
        match bndO n m t hi with
        | some h' =>
          match bndO 0 h' t lo with
          | some l' => if h' ≤ m then some (.sl (some (a.1, a.2 + l' * size)) (h' - l') (m - l') none) else none
          | none => none
        | none => none
      | none => none
    | _ => none
  | .fieldAddr off x =>
    match x.ev t with
    | .ptr (some a) => some (.ptr (some (a.1, a.2 + off)))
    | _ => none
  | .field1 off x =>
    match x.ev t with
    | .agg l => l[off]?
    | _ => none
  | .fieldN off n x =>
    match x.ev t with
    | .agg l => if off + n ≤ l.length then some (.agg ((l.drop off).take n)) else none
    | _ => none
  | .idxAddrArr len size x i =>
    match x.ev t, i.ev t with
    | .ptr (some a), .int _ n => if 0 ≤ n ∧ n < len then some (.ptr (some (a.1, a.2 + n.toNat * size))) else none
    | _, _ => none
  | .idxAddrSl size x i =>
    match x.ev t, i.ev t with
    | .sl (some a) len _ _, .int _ n => if 0 ≤ n ∧ n < len then some (.ptr (some (a.1, a.2 + n.toNat * size))) else none
    | _, _ => none
  | .idxArr1 len x i =>
    match x.ev t, i.ev t with
    | .agg l, .int _ n => if 0 ≤ n ∧ n < len then l[n.toNat]? else none
    | _, _ => none
  | .idxArrN len m x i =>
    match x.ev t, i.ev t with
    | .agg l, .int _ n => if 0 ≤ n ∧ n < len ∧ n.toNat * m + m ≤ l.length then some (.agg ((l.drop (n.toNat * m)).take m)) else none
    | _, _ => none
  | .idxStr x i =>
    match x.ev t, i.ev t with
    | .str l, .int _ n => if 0 ≤ n then (l[n.toNat]?).map fun b => .int .u8 b.toNat else none
    | _, _ => none
  | .lookup kd zero x k ok =>
    match h.mapEs (x.ev t) with
    | some es =>
      match findK kd (k.ev t) es 0 with
      | some (some (_, v)) => some (if ok then .tup [v, .bool true] else v)
      | some none => some (if ok then .tup [zero, .bool false] else zero)
      | none => none
    | none => none
  | .entry it =>
    match it.ev t with
    | .ptr (some (r, 0)) =>
      match h.get r with
      | some (.iter (some m) _ seen stepped) =>
        match h.mp m, seen.getLast? with
        | some (es, clock), some stamp =>
          if clock = stepped then
            match es.find? (fun e => e.2.2 == stamp) with
            | some e => some (.tup [e.1, e.2.1])
            | none => none
          else none
        | _, _ => none
      | _ => none
    | _ => none
  | .ext x i =>
    match x.ev t with
    | .tup l => l[i]?
    | _ => none
  | .len k x =>
    match k, x.ev t with
    | 0, .str l => some (.int .i64 l.length)
    | 1, .sl _ n _ _ => some (.int .i64 n)
    | 2, .map none => some (.int .i64 0)
    | 2, .map (some r) => (h.mp r).map fun p => .int .i64 p.1.length
    | _, _ => none
  | .lenC n => some (.int .i64 n)
  | .mn xs => minL (xs.map (AO.ev t))
  | .mx xs => maxL (xs.map (AO.ev t))
  | .cmpB x y =>
    match h.slBytes (x.ev t), h.slBytes (y.ev t) with
    | some a, some b => some (.int .i64 (cmpBytes a b))
    | _, _ => none
  | _ => none

/-- Operations that make one block: the block, and the value once it has a name. -/
def al (t : List AV) : AOp → Option (Blk × (Nat → AV))
  | .alloc e z => some (.cells e z false, fun n => .ptr (some (n, 0)))
  | .box e x => if (x.ev t).cells.all AV.flat then some (.cells e (x.ev t).cells false, fun n => .ptr (some (n, 0))) else none
  | .buildSl e len z parts =>
    match fillA z (parts.map fun p => (p.1, p.2.1, p.2.2.ev t)) with
    | some l => if l.all AV.flat then some (.cells e l false, fun n => .sl (some (n, 0)) len len none) else none
    | none => none
  | .mkMap => some (.map [] 0, fun n => .map (some n))
  | .mkSl e size bytes z l c =>
    match l.ev t, c.ev t with
    | .int _ a, .int _ b =>
      if 0 ≤ a ∧ a ≤ b ∧ b * bytes ≤ 2 ^ 40 ∧ b ≤ 2 ^ 40 then some (.cells e ((List.replicate b.toNat z).flatten) false, fun n => .sl (some (n, 0)) a.toNat b.toNat none) else none
    | _, _ => none
  | .strBytes e x =>
    match x.ev t with
    | .str l => if l.length ≤ 2 ^ 40 then some (.cells e (ofBytes l) false, fun n => .sl (some (n, 0)) l.length l.length (some 1)) else none
    | _ => none
  | _ => none

structure St where
  t : List AV
  h : Heap
  d : List Nat
  rd : Bool

def St.put (s : St) (dst : Option Nat) (v : AV) : St :=
  match dst with
  | some d => { s with t := s.t.set d v }
  | none => s

/-- Is the operation wanted? none: what is asked is no bool. -/
def AOpr.want (o : AOpr) (t : List AV) : Option Bool :=
  match o.guard with
  | none => some true
  | some (d, w) =>
    match t.getD d undefA with
    | .bool b => some (b == w)
    | .tup _ => some false
    | _ => none

abbrev Rec := AC → St → (AX → St → Prop) → Prop

def resA (h : Heap) (t : List AV) : ARes → Option AV
  | .tmp i => some (t.getD i undefA)
  | .cell1 i =>
    match t.getD i undefA with
    | .ptr (some a) => h.ld a
    | _ => none
  | .cellN i n =>
    match t.getD i undefA with
    | .ptr (some a) => (h.ldN a n).map .agg
    | _ => none
def resAll (h : Heap) (t : List AV) : List ARes → Option (List AV)
  | [] => some []
  | r :: rs =>
    match resA h t r, resAll h t rs with
    | some v, some vs => some (v :: vs)
    | _, _ => none
def pack : List AV → AV
  | [v] => v
  | vs => .tup vs

/-- The marks of the loops over functions that were gone through: each is taken off. -/
def takeD : List Nat → Heap → Option Heap
  | [], h => some h
  | n :: ns, h =>
    match h.get n with
    | some (.dfr true) => takeD ns (h.put n (.dfr false))
    | _ => none

def callF (fns : Nat → Option AFn) (rec : Rec) (f : Nat) (args : List AV) (h : Heap) (K : AV → Heap → Prop) : Prop :=
  match fns f with
  | some fn =>
    match fn.memo args h with
    | some v => K v h
    | none => rec fn.body { t := args ++ List.replicate (fn.ntmps - args.length) undefA, h, d := [], rd := false } fun x s =>
      match x with
      | .exit _ => False
      | _ =>
        match takeD s.d s.h with
        | some h' =>
          match resAll h' s.t fn.res with
          | some vs => K (pack vs) h'
          | none => False
        | none => False
  | none => False

def setAll (t : List AV) : List Nat → List AV → List AV
  | p :: ps, v :: vs => setAll (t.set p v) ps vs
  | _, _ => t

def callYield (rec : Rec) (l : Nat) (args : List AV) (h : Heap) (K : AV → Heap → Prop) : Prop :=
  match h.get l with
  | some (.loop .ready pend tmps ps asg body dfr) =>
    if args.length = ps.length then
      rec asg { t := setAll tmps ps args, h, d := [], rd := true } fun x s =>
        match x with
        | .normal =>
          match s.h.get l with
          | some (.loop .ready pend' tmps' ps' asg' body' dfr') =>
            rec body { s with h := s.h.put l (.loop .busy pend' tmps' ps' asg' body' dfr') } fun y s' =>
              match s'.h.get l with
              | some (.loop _ _ tmps'' ps'' asg'' body'' dfr'') =>
                match y with
                | .normal => K (.bool true) (s'.h.put l (.loop .ready none tmps'' ps'' asg'' body'' dfr''))
                | y => K (.bool false) (s'.h.put l (.loop .done (some y) tmps'' ps'' asg'' body'' dfr''))
              | _ => False
          | _ => False
        | _ => False
    else False
  | _ => False

def callV (fns : Nat → Option AFn) (rec : Rec) (v : AV) (args : List AV) (h : Heap) (K : AV → Heap → Prop) : Prop :=
  match v with
  | .fn f caps => callF fns rec f (args ++ caps) h K
  | .yield l => callYield rec l args h K
  | _ => False

/-- How long it is, what is put behind a slice. -/
def srcLen : AV → Option Nat
  | .sl _ n _ _ => some n
  | .str l => some l.length
  | _ => none
/-- The first of them. -/
def srcCut (dl : Nat) : AV → Option (Nat × AV)
  | .sl b n _ ex => some (n, AV.sl b (Nat.min n dl) (Nat.min n dl) ex)
  | .str l => some (l.length, AV.str (l.take (Nat.min l.length dl)))
  | _ => none

/-- Operations that turn the heap. -/
def aeff (fns : Nat → Option AFn) (rec : Rec) (t : List AV) (h : Heap) (K : AV → Heap → Prop) : AOp → Prop
  | .store n a x =>
    match a.ev t with
    | .ptr (some p) =>
      if (x.ev t).cells.length = n then
        match h.stN p (x.ev t).cells with
        | some h' => K undefA h'
        | none => False
      else False
    | _ => False
  | .append e size bytes _ x y =>
    match x.ev t, h.slCells size (y.ev t) with
    | .sl a len cap ex, some new =>
      match srcLen (y.ev t) with
      | some n =>
        if len + n ≤ cap then
          match (match a with
            | none => some h
            | some p => h.stN (p.1, p.2 + len * size) new) with
          | some h' => K (.sl a (len + n) cap ex) h'
          | none => False
        else if (len + n) * bytes ≤ 2 ^ 46 ∧ 0 < bytes ∧ 0 < size ∧ len + n ≤ 2 ^ 46 ∧ new.all AV.flat = true then
          match ex with
          | none =>
            match h.slCells size (x.ev t) with
            | some old => K (.sl (some (h.next, 0)) (len + n) (len + n) (some size)) (h.new (.cells e (old ++ new) false))
            | none => False
          | some es =>
            match a with
            | some p =>
              match h.get p.1, h.slCells size (x.ev t) with
              | some (.cells e' _ false), some old =>
                if e' = e ∧ es = size then K (.sl (some (h.next, 0)) (len + n) (len + n) (some size)) ((h.del p.1).new (.cells e (old ++ new) false)) else False
              | _, _ => False
            | none => False
        else False
      | none => False
    | _, _ => False
  | .copy size x y =>
    match x.ev t with
    | .sl a dl _ _ =>
      match srcCut dl (y.ev t) with
      | some (n, y') =>
        match h.slCells size y' with
        | some new =>
          match (match a with
            | none => some h
            | some p => h.stN p new) with
          | some h' => K (.int .i64 (Nat.min n dl)) h'
          | none => False
        | none => False
      | none => False
    | _ => False
  | .clear size z x =>
    match x.ev t with
    | .sl none _ _ _ => K undefA h
    | .sl (some p) n _ _ =>
      if z.length = size then
        match h.stN p ((List.replicate n z).flatten) with
        | some h' => K undefA h'
        | none => False
      else False
    | _ => False
  | .mapUpd kd m k v =>
    match m.ev t with
    | .map (some r) =>
      match h.mp r with
      | some (es, clock) =>
        match findK kd (k.ev t) es 0 with
        | some (some (i, _)) =>
          match es[i]? with
          | some e => K undefA (h.put r (.map (es.set i (k.ev t, v.ev t, e.2.2)) clock))
          | none => False
        | some none => K undefA (h.put r (.map (es ++ [(k.ev t, v.ev t, clock)]) (clock + 1)))
        | none => False
      | none => False
    | _ => False
  | .delete kd m k =>
    match m.ev t with
    | .map none => K undefA h
    | .map (some r) =>
      match h.mp r with
      | some (es, clock) =>
        match findK kd (k.ev t) es 0 with
        | some (some (i, _)) => K undefA (h.put r (.map (es.eraseIdx i) clock))
        | some none => K undefA h
        | none => False
      | none => False
    | _ => False
  | .freeze x =>
    match x.ev t with
    | .sl (some p) len cap ex =>
      match h.get p.1 with
      | some (.cells _ _ false) => K (.sl (some p) len cap ex) h
      | _ => False
    | _ => False
  | .range x =>
    match x.ev t with
    | .map none => K (.ptr (some (h.next, 0))) (h.new (.iter none 0 [] 0))
    | .map (some m) =>
      match h.mp m with
      | some (_, clock) => K (.ptr (some (h.next, 0))) (h.new (.iter (some m) clock [] clock))
      | none => False
    | _ => False
  | .next it =>
    match it.ev t with
    | .ptr (some (r, 0)) =>
      match h.get r with
      | some (.iter none _ _ _) => K (.tup [.bool false]) h
      | some (.iter (some m) since seen stepped) =>
        match h.mp m with
        | some (es, clock) =>
          if since ≤ stepped ∧ es.all (fun e => decide (e.2.2 < since)) = true then
            let left := es.filter fun e => !seen.contains e.2.2
            if left.isEmpty then K (.tup [.bool false]) h
            else ∀ e ∈ left, K (.tup [.bool true, e.1, e.2.1]) (h.put r (.iter (some m) since (seen ++ [e.2.2]) clock))
          else False
        | none => False
      | _ => False
    | _ => False
  | .call f args => callF fns rec f (args.map (AO.ev t)) h K
  | .callv x args => callV fns rec (x.ev t) (args.map (AO.ev t)) h K
  | _ => False

def aop (fns : Nat → Option AFn) (rec : Rec) (op : AOp) (t : List AV) (h : Heap) (K : AV → Heap → Prop) : Prop :=
  match op.cls with
  | .eff => aeff fns rec t h K op
  | .alloc =>
    match al t op with
    | some (b, f) => K (f h.next) (h.new b)
    | none => False
  | _ =>
    match qv h t op with
    | some v => K v h
    | none => False

def runOps (fns : Nat → Option AFn) (rec : Rec) : List AOpr → St → (St → Prop) → Prop
  | [], s, K => K s
  | o :: os, s, K =>
    match o.want s.t with
    | some true => aop fns rec o.op s.t s.h fun v h => runOps fns rec os ({ s with h }.put o.dst v) K
    | some false => runOps fns rec os (s.put o.dst undefA) K
    | none => False

end Go.Am
