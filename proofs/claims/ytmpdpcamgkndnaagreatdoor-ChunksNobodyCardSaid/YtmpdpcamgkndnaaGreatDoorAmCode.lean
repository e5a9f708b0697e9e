/- The abstract machine: how code is run (a transformer of predicates), and how the model's code becomes the machine's. Conditions: none; definitions alone. -/
import Derived.Test.YtmpdpcamgkndnaaGreatDoorAmBase
import Derived.Orders
set_option linter.constructorNameAsVariable false
set_option linter.unusedSimpArgs false
set_option linter.unusedVariables false
namespace Go.Am

def setO (t : List AV) (d : Option Nat) (v : AV) : List AV :=
  match d with
  | some d => t.set d v
  | none => t

def Heap.putL (h : Heap) : List (Nat × Blk) → Heap
  | [] => h
  | p :: ps => (h.put p.1 p.2).putL ps

mutual
def AV.beq : AV → AV → Bool
  | .bool a, .bool b => a == b
  | .int k a, .int k' b => k == k' && a == b
  | .str a, .str b => a == b
  | .ptr a, .ptr b => a == b
  | .sl a l c e, .sl a' l' c' e' => a == a' && l == l' && c == c' && e == e'
  | .map a, .map b => a == b
  | .fn f l, .fn g m => f == g && AV.beqL l m
  | .yield a, .yield b => a == b
  | .nilf, .nilf => true
  | .agg l, .agg m => AV.beqL l m
  | .tup l, .tup m => AV.beqL l m
  | _, _ => false
def AV.beqL : List AV → List AV → Bool
  | [], [] => true
  | a :: l, b :: m => AV.beq a b && AV.beqL l m
  | _, _ => false
end

def beqO : Option AV → AV → Bool
  | some a, b => a.beq b
  | none, _ => false

/-- A region that draws its order, gone through in the order in which its effects want it. nm: the next new block's name; k: the heap; ks: the heaps ahead of the effects so far, with the effect; pend: blocks that no effect has seen yet. -/
structure Sd where
  nm : Nat
  t : List AV
  k : Heap
  ks : List (Nat × Heap)
  pend : List (Nat × Blk)

def Sd.skip (s : Sd) (d : DOpr) : Sd :=
  match d.o.op.cls with
  | .eff => { s with t := setO s.t d.o.dst undefA, k := s.k.putL s.pend, ks := (d.i, s.k) :: s.ks, pend := [] }
  | .alloc => { s with nm := s.nm + 1, t := setO s.t d.o.dst undefA }
  | _ => { s with t := setO s.t d.o.dst undefA }

/-- Is what is read the same in every heap in which it may be read? -/
def Sd.sure (s : Sd) (d : DOpr) (v : AV) : Bool := s.ks.all fun p => d.m.testBit p.1 || beqO (qv p.2 s.t d.o.op) v

def runD (fns : Nat → Option AFn) (rec : Rec) : List DOpr → Sd → (List AV → Heap → Prop) → Prop
  | [], s, K => K s.t (s.k.putL s.pend)
  | d :: ds, s, K =>
    match d.o.want s.t with
    | none => False
    | some false => runD fns rec ds (s.skip d) K
    | some true =>
      match d.o.op.cls with
      | .pure =>
        match qv Heap.empty s.t d.o.op with
        | some v => runD fns rec ds { s with t := setO s.t d.o.dst v } K
        | none => False
      | .read =>
        match qv s.k s.t d.o.op with
        | some v => if s.sure d v = true then runD fns rec ds { s with t := setO s.t d.o.dst v } K else False
        | none => False
      | .alloc =>
        match al s.t d.o.op with
        | some (b, f) => runD fns rec ds { s with nm := s.nm + 1, t := setO s.t d.o.dst (f s.nm), pend := s.pend ++ [(s.nm, b)] } K
        | none => False
      | .eff => ∃ v h', (∀ K' : AV → Heap → Prop, K' v h' → aeff fns rec s.t (s.k.putL s.pend) K' d.o.op) ∧
          runD fns rec ds { s with t := setO s.t d.o.dst v, k := h', ks := (d.i, s.k) :: s.ks, pend := [] } K

def astep (fns : Nat → Option AFn) (rec : Rec) (c : AC) (s : St) (K : AX → St → Prop) : Prop :=
  match c with
  | .skip => K .normal s
  | .reg ops => runOps fns rec ops s (K .normal)
  | .regD m ops => runD fns rec ops { nm := s.h.next, t := s.t, k := s.h.resv m, ks := [], pend := [] } fun t h => K .normal { s with t, h }
  | .seq a b => rec a s fun x s' =>
      match x with
      | .normal => rec b s' K
      | x => K x s'
  | .cond c a b =>
    match c.ev s.t with
    | .bool true => rec a s K
    | .bool false => rec b s K
    | _ => False
  | .block id c => rec c s fun x s' =>
      match x with
      | .exit i => if i = id then K .normal s' else K (.exit i) s'
      | x => K x s'
  | .loop c => rec c s fun x s' =>
      match x with
      | .normal => rec (.loop c) s' K
      | x => K x s'
  | .rangeF f ps asg body =>
    match s.rd with
    | true => False
    | false =>
      match f.ev s.t with
      | .fn f' caps =>
        callF fns rec f' (.yield (s.h.next + 1) :: caps) ((s.h.new (.dfr true)).new (.loop .ready none s.t ps asg body s.h.next)) fun _ h3 =>
          match h3.get (s.h.next + 1) with
          | some (.loop st pend a b c d e) =>
            match st with
            | .busy => False
            | _ =>
              K (pend.getD .normal) { s with h := h3.put (s.h.next + 1) (.loop .exhausted pend a b c d e), d := s.h.next :: s.d }
          | _ => False
      | _ => False
  | .exit id => K (.exit id) s
  | .ret => K .ret s
  | .fgt ts c => rec c { s with t := ts.foldl (fun t i => t.set i .top) s.t } K

def awp (fns : Nat → Option AFn) : Nat → Rec
  | 0 => fun _ _ _ => False
  | n + 1 => astep fns (awp fns n)

/-- A call of a function of the table. -/
def acall (fns : Nat → Option AFn) (n : Nat) (f : Nat) (args : List AV) (h : Heap) (K : AV → Heap → Prop) : Prop := callF fns (awp fns n) f args h K

/-! ### From the model's code -/
def cO (P : Program) : Operand → AO
  | .tmp t => .t t
  | .const v => .c (.ofV v)
  | .global g => if g < P.globals.size then .g g else .c .top
  | .func f => .f f

def Tp.size (P : Program) (t : TypeId) : Option Nat := (P.info? t).map (·.size)
def Tp.bytes (P : Program) (t : TypeId) : Option Nat := (P.info? t).map (·.bytes)
def Tp.zero (P : Program) (t : TypeId) : Option Value := (P.info? t).bind (·.zero)
def Tp.agg (P : Program) (t : TypeId) : Option Bool :=
  match P.underlying t with
  | some (.struct _) | some (.array _ _) => some true
  | some _ => some false
  | none => none
/-- The zero cells of a type, all of them plain. -/
def Tp.zeros (P : Program) (t : TypeId) : Option (List AV) :=
  match Tp.zero P t with
  | some z =>
    let l := z.cells.toList.map AV.ofV1
    if l.all AV.flat then some l else none
  | none => none

def flatFs (rec : TypeId → Option (List FK)) : List Field → Nat → Option (List FK)
  | [], _ => some []
  | f :: fs, n =>
    match rec f.type with
    | some l => if f.name ≠ "_" ∧ f.offset = n then (flatFs rec fs (n + l.length)).map (l ++ ·) else none
    | none => none
def flatStep (P : Program) (rec : TypeId → Option (List FK)) (t : TypeId) : Option (List FK) :=
  match P.underlying t with
  | some .bool => some [.bool]
  | some (.int _) => some [.int]
  | some .string => some [.str]
  | some (.struct fs) => if P.stoodInHeld t = true then none else flatFs rec fs.toList 0
  | some (.array len e) => (rec e).map fun l => (List.replicate len l).flatten
  | _ => none
def flatK (P : Program) : Nat → TypeId → Option (List FK)
  | 0, _ => none
  | d + 1, t =>
    match flatStep P (flatK P d) t with
    | some l => if Tp.size P t = some l.length then some l else none
    | none => none

def cEq (P : Program) (t : TypeId) : Option EqK :=
  match P.underlying t with
  | some .bool => some .bool
  | some (.pointer e) =>
    match Tp.size P e with
    | some (_ + 1) => some .ptr
    | _ => none
  | some (.slice _) => some .slice
  | some (.map _ _) => some .map
  | some (.func _ _ _) => some .func
  | some (.struct _) | some (.array _ _) => if P.eqGuardType P.depth t = false then (flatK P 8 t).map .flat else none
  | _ => none

def cBin (P : Program) (op : BinOp) (t : TypeId) (x y : AO) : Option AOp :=
  match P.underlying t with
  | some (.int _) => some (.bin op x y)
  | some .string => some (.bin op x y)
  | _ =>
    match op with
    | .eql => (cEq P t).map fun k => .eq false k x y
    | .neq => (cEq P t).map fun k => .eq true k x y
    | _ => none

def isU8 (P : Program) (e : TypeId) : Bool :=
  match P.underlying e with
  | some (.int .u8) => true
  | _ => false

def cConv (P : Program) (s d : TypeId) (x : AO) : Option AOp :=
  match P.underlying s, P.underlying d with
  | some (.int _), some (.int k) => some (.conv k x)
  | some .string, some .string => some (.same x)
  | some .string, some (.slice e) => if isU8 P e then some (.strBytes e x) else none
  | some (.slice e), some .string => if isU8 P e then some (.bytesStr x) else none
  | some (.slice _), some (.slice e) => if isU8 P e && (s == d) then some (.freeze x) else none
  | _, _ => none

def plainKey (P : Program) (k : TypeId) : Option FK :=
  match P.underlying k with
  | some (.int _) => some .int
  | some .string => some .str
  | _ => none

def cParts (P : Program) (place : Nat → Option (Nat × Nat)) : List (Nat × Operand) → Option (List (Nat × Nat × AO))
  | [] => some []
  | (i, x) :: rest =>
    match place i, cParts P place rest with
    | some (o, s), some l => some ((o, s, cO P x) :: l)
    | _, _ => none

def cLen (P : Program) (ts : Array TypeId) : List AO → Option AOp
  | [x] =>
    match (ts[0]?).bind P.underlying with
    | some .string => some (.len 0 x)
    | some (.slice _) => some (.len 1 x)
    | some (.map _ _) => some (.len 2 x)
    | some (.array n _) => some (.lenC n)
    | _ => none
  | _ => none
/-- 1: a slice is put behind; 0: a string. -/
def srcKind (P : Program) (ts : Array TypeId) : Bool :=
  match (ts[1]?).bind P.underlying with
  | some (.slice _) | some .string => true
  | _ => false
def cAppend (P : Program) (ts : Array TypeId) : List AO → Option AOp
  | [x, y] =>
    match (ts[0]?).bind P.underlying with
    | some (.slice e) =>
      match Tp.size P e, Tp.bytes P e, Tp.zeros P e with
      | some s, some b, some z => if z.length = s ∧ srcKind P ts = true then some (.append e s b z x y) else none
      | _, _, _ => none
    | _ => none
  | _ => none
def cCopy (P : Program) (ts : Array TypeId) : List AO → Option AOp
  | [x, y] =>
    match (ts[0]?).bind P.underlying with
    | some (.slice e) => (Tp.size P e).map fun s => .copy s x y
    | _ => none
  | _ => none
def cClear (P : Program) (ts : Array TypeId) : List AO → Option AOp
  | [x] =>
    match (ts[0]?).bind P.underlying with
    | some (.slice e) =>
      match Tp.size P e, Tp.zeros P e with
      | some s, some z => some (.clear s z x)
      | _, _ => none
    | _ => none
  | _ => none
def cDelete (P : Program) (ts : Array TypeId) : List AO → Option AOp
  | [m, k] =>
    match (ts[0]?).bind P.underlying with
    | some (.map kt _) => (plainKey P kt).map fun kd => .delete kd m k
    | _ => none
  | _ => none
def cBuiltin (P : Program) (b : Builtin) (ts : Array TypeId) (args : List AO) : Option AOp :=
  match b with
  | .len => cLen P ts args
  | .append => cAppend P ts args
  | .copy => cCopy P ts args
  | .clear => cClear P ts args
  | .delete => cDelete P ts args
  | .min => some (.mn args)
  | .max => some (.mx args)
  | _ => none

def cOp (P : Program) (o : Op) : Option AOp :=
  match o with
  | .move x | .assign x => some (.mov (cO P x))
  | .pick c a b => some (.pick (cO P c) (cO P a) (cO P b))
  | .alloc e => (Tp.zeros P e).map fun z => .alloc e z
  | .box e x => some (.box e (cO P x))
  | .build t ps =>
    match Tp.zeros P t, P.underlying t with
    | some z, some (.struct fs) =>
      match fs.toList.mapM (fun f => (P.info? f.type).map fun i => (f.offset, i.size)) with
      | some places => (cParts P (fun i => places[i]?) ps.toList).map fun l => .build z l
      | none => none
    | some z, some (.array _ e) =>
      match Tp.size P e with
      | some s => (cParts P (fun i => some (i * s, s)) ps.toList).map fun l => .build z l
      | none => none
    | _, _ => none
  | .buildSlice t len ps =>
    match P.underlying t with
    | some (.slice e) =>
      match Tp.size P e, Tp.zeros P e with
      | some s, some z =>
        if len * s ≤ 2 ^ 24 ∧ z.length = s then (cParts P (fun i => some (i * s, s)) ps.toList).map fun l => .buildSl e len (List.replicate len z).flatten l else none
      | _, _ => none
    | _ => none
  | .load t x =>
    match Tp.agg P t, Tp.size P t with
    | some true, some n => some (.loadN n (cO P x))
    | some false, some _ => some (.load (cO P x))
    | _, _ => none
  | .store t a x => (Tp.size P t).map fun n => .store n (cO P a) (cO P x)
  | .nilCheck x => some (.nilCheck (cO P x))
  | .binOp op t x y _ => cBin P op t (cO P x) (cO P y)
  | .unOp op _ x => some (.un op (cO P x))
  | .convert s d x => cConv P s d (cO P x)
  | .sliceToArrayPointer t x =>
    match P.underlying t with
    | some (.array n _) => some (.s2a n (cO P x))
    | _ => none
  | .makeFunc (.func f) first caps => if first.size = 0 then some (.mkFn f (caps.toList.map (cO P))) else none
  | .makeMap _ none => some .mkMap
  | .makeSlice t l c =>
    match P.underlying t with
    | some (.slice e) =>
      match Tp.size P e, Tp.bytes P e, Tp.zeros P e with
      | some s, some b, some z => if z.length = s then some (.mkSl e s b z (cO P l) (cO P c)) else none
      | _, _, _ => none
    | _ => none
  | .slice t x lo hi mx =>
    match P.underlying t with
    | some .string => if mx.isNone then some (.sliceStr (cO P x) (lo.map (cO P)) (hi.map (cO P))) else none
    | some (.slice e) => if mx.isNone || hi.isSome then (Tp.size P e).map fun s => .sliceSl s (cO P x) (lo.map (cO P)) (hi.map (cO P)) (mx.map (cO P)) else none
    | some (.array n e) => if mx.isNone || hi.isSome then (Tp.size P e).map fun s => .sliceArr n s (cO P x) (lo.map (cO P)) (hi.map (cO P)) (mx.map (cO P)) else none
    | _ => none
  | .fieldAddr t x f =>
    match P.underlying t with
    | some (.struct fs) =>
      match fs[f]? with
      | some fd =>
        match Tp.size P fd.type with
        | some (_ + 1) => some (.fieldAddr fd.offset (cO P x))
        | _ => none
      | none => none
    | _ => none
  | .field t x f =>
    match P.underlying t with
    | some (.struct fs) =>
      match fs[f]? with
      | some fd =>
        match Tp.agg P fd.type, Tp.size P fd.type with
        | some true, some n => some (.fieldN fd.offset n (cO P x))
        | some false, some _ => some (.field1 fd.offset (cO P x))
        | _, _ => none
      | none => none
    | _ => none
  | .indexAddr t x i =>
    match P.underlying t with
    | some (.array n e) => (Tp.size P e).map fun s => .idxAddrArr n s (cO P x) (cO P i)
    | some (.slice e) => (Tp.size P e).map fun s => .idxAddrSl s (cO P x) (cO P i)
    | _ => none
  | .index t x i =>
    match P.underlying t with
    | some (.array n e) =>
      match Tp.agg P e, Tp.size P e with
      | some true, some s => some (.idxArrN n s (cO P x) (cO P i))
      | some false, some 1 => some (.idxArr1 n (cO P x) (cO P i))
      | _, _ => none
    | some .string => some (.idxStr (cO P x) (cO P i))
    | _ => none
  | .lookup t x k ok =>
    match P.underlying t with
    | some (.map kt e) =>
      match plainKey P kt, Tp.zero P e with
      | some kd, some z => some (.lookup kd (.ofV z) (cO P x) (cO P k) ok)
      | _, _ => none
    | _ => none
  | .mapUpdate t m k v | .insert t m k v =>
    match P.underlying t with
    | some (.map kt _) => (plainKey P kt).map fun kd => .mapUpd kd (cO P m) (cO P k) (cO P v)
    | _ => none
  | .range t x =>
    match P.underlying t with
    | some (.map _ _) => some (.range (cO P x))
    | _ => none
  | .next it false => some (.next (cO P it))
  | .entry it => some (.entry (cO P it))
  | .extract x i => some (.ext (cO P x) i)
  | .call c =>
    match c.callee with
    | .value (.func f) =>
      match P.funcs[f]? with
      | some fn =>
        if fn.body.isSome then (if fn.name = "runtime.NumGoroutine" then none else some (.call f (c.args.toList.map (cO P))))
        else if fn.name = "internal/bytealg.Compare" ∧ fn.origin = "" then
          match c.args.toList with
          | [x, y] => some (.cmpB (cO P x) (cO P y))
          | _ => none
        else none
      | none => none
    | .value x => some (.callv (cO P x) (c.args.toList.map (cO P)))
    | .builtin b => cBuiltin P b c.argTypes (c.args.toList.map (cO P))
    | .invoke .. => none
  | _ => none

def cGuard (ops : Array Oper) : Option (Nat × Bool) → Option (Option (Nat × Bool))
  | none => some none
  | some (j, w) => ((ops[j]?).bind (·.dst)).map fun d => some (d, w)
def cOper (P : Program) (ops : Array Oper) (o : Oper) : Option AOpr :=
  match cOp P o.op, cGuard ops o.guard with
  | some op, some g => some { dst := o.dst, op, guard := g }
  | _, _ => none
def cOpers (P : Program) (ops : Array Oper) : List Oper → Option (List AOpr)
  | [] => some []
  | o :: os =>
    match cOper P ops o, cOpers P ops os with
    | some a, some l => some (a :: l)
    | _, _ => none

end Go.Am

namespace Go.Am

/-! ### A region that draws its order -/
def edgesOf (o : Oper) : List Nat := (o.after.toList.filter (Region.binds .any ·)).map (·.on)

def maskOf (es : List Nat) (acc : List Nat) : Nat := es.foldl (fun s e => s ||| 2 ^ e ||| acc.getD e 0) 0
def masksF : List Oper → List Nat → List Nat
  | [], acc => acc
  | o :: os, acc => masksF os (acc ++ [maskOf (edgesOf o) acc])

def canonF (n : Nat) (ms : List Nat) : List Nat → List Nat → List Nat
  | [], done => done ++ (List.range n).filter fun i => !done.contains i
  | e :: es, done => canonF n ms es (done ++ ((List.range n).filter fun i => (ms.getD e 0).testBit i && !done.contains i) ++ [e])

def AO.uses : AO → List Nat
  | .t i => [i]
  | _ => []
def AO.usesO : Option AO → List Nat
  | some x => x.uses
  | none => []
def AO.usesL : List AO → List Nat
  | [] => []
  | x :: xs => x.uses ++ usesL xs
def AO.usesP : List (Nat × Nat × AO) → List Nat
  | [] => []
  | x :: xs => x.2.2.uses ++ usesP xs

def AOp.uses : AOp → List Nat
  | .mov x | .load x | .loadN _ x | .nilCheck x | .un _ x | .conv _ x | .same x | .bytesStr x | .s2a _ x | .fieldAddr _ x | .field1 _ x | .fieldN _ _ x
  | .entry x | .ext x _ | .len _ x | .box _ x | .strBytes _ x | .clear _ _ x | .freeze x | .range x | .next x => x.uses
  | .pick c a b => c.uses ++ a.uses ++ b.uses
  | .build _ ps => AO.usesP ps
  | .bin _ x y | .eq _ _ x y | .idxAddrArr _ _ x y | .idxAddrSl _ x y | .idxArr1 _ x y | .idxArrN _ _ x y | .idxStr x y | .lookup _ _ x y _ | .cmpB x y
  | .mkSl _ _ _ _ x y | .store _ x y | .append _ _ _ _ x y | .copy _ x y | .delete _ x y => x.uses ++ y.uses
  | .mkFn _ l | .mn l | .mx l | .call _ l => AO.usesL l
  | .sliceStr x lo hi => x.uses ++ AO.usesO lo ++ AO.usesO hi
  | .sliceSl _ x lo hi m3 | .sliceArr _ _ x lo hi m3 => x.uses ++ AO.usesO lo ++ AO.usesO hi ++ AO.usesO m3
  | .lenC _ | .alloc .. | .mkMap => []
  | .buildSl _ _ _ ps => AO.usesP ps
  | .mapUpd _ m k v => m.uses ++ k.uses ++ v.uses
  | .callv x l => x.uses ++ AO.usesL l

def AOpr.uses (a : AOpr) : List Nat := a.op.uses ++ (match a.guard with | some (d, _) => [d] | none => []) ++ a.dst.toList

def AOpr.apart (a b : AOpr) : Bool :=
  (match a.dst with | some d => !b.uses.contains d | none => true) && (match b.dst with | some d => !a.uses.contains d | none => true)

def AOpr.isEff (a : AOpr) : Bool := a.op.cls == .eff

def chkD (as : List AOpr) (es : List (List Nat)) (ms : List Nat) : List Nat → List Nat → Bool
  | [], _ => true
  | i :: L, done =>
    decide (i < as.length) && !done.contains i && (es.getD i []).all done.contains &&
    (done.all fun q => (ms.getD i 0).testBit q || (!(as.getD i default).isEff && (as.getD q default).apart (as.getD i default))) &&
    chkD as es ms L (i :: done)

def cD (ops : List Oper) (as : List AOpr) : Option AC :=
  let ms := masksF ops []
  let es := ops.map edgesOf
  let L := canonF as.length ms ((List.range as.length).filter fun i => (as.getD i default).isEff) []
  let ds := L.map fun i => { o := as.getD i default, i, m := ms.getD i 0 : DOpr }
  if L.length == as.length && (List.range as.length).all L.contains && chkD as es ms L [] then
    some (.regD (ds.filter fun d => d.o.op.cls == .alloc).length ds)
  else none

def cCode (P : Program) : Code → Option AC
  | .skip => some .skip
  | .region _ ops false => (cOpers P ops ops.toList).map .reg
  | .region _ ops true => (cOpers P ops ops.toList).bind fun as => cD ops.toList as
  | .seq a b =>
    match cCode P a, cCode P b with
    | some x, some y => some (.seq x y)
    | _, _ => none
  | .cond c a b =>
    match cCode P a, cCode P b with
    | some x, some y => some (.cond (cO P c) x y)
    | _, _ => none
  | .block id c => (cCode P c).map fun x => .block id x
  | .loop c => (cCode P c).map fun x => .loop x
  | .rangeFunc f ps a b =>
    match cCode P a, cCode P b with
    | some x, some y => some (.rangeF (cO P f) ps.toList x y)
    | _, _ => none
  | .exit id => some (.exit id)
  | .ret => some .ret
  | _ => none

def AC.erase : AC → AC
  | .seq a b => .seq a.erase b.erase
  | .cond c a b => .cond c a.erase b.erase
  | .block id c => .block id c.erase
  | .loop c => .loop c.erase
  | .rangeF f ps a b => .rangeF f ps a.erase b.erase
  | .fgt _ c => c.erase
  | c => c

def cRes (P : Program) : ResultVar → Option ARes
  | .tmp t => some (.tmp t)
  | .cell a t =>
    match Tp.agg P t, Tp.size P t with
    | some true, some n => some (.cellN a n)
    | some false, some _ => some (.cell1 a)
    | _, _ => none
def cRess (P : Program) : List ResultVar → Option (List ARes)
  | [] => some []
  | r :: rs =>
    match cRes P r, cRess P rs with
    | some a, some l => some (a :: l)
    | _, _ => none

/-- The function f of the program is fn, but for what is forgotten on the way. -/
def Compiled (P : Program) (f : Nat) (fn : AFn) : Prop :=
  ∃ g c, P.funcs[f]? = some g ∧ g.body = some c ∧ g.name ≠ "runtime.NumGoroutine" ∧ fn.ntmps = g.ntmps ∧ cRess P g.results.toList = some fn.res ∧ cCode P c = some fn.body.erase

end Go.Am
