/- From the model's code to the evaluator's code: a function that is run once a function; nothing is proved here. -/
import Derived.Test.YtldkpohfigaoiaaGreatRfDef
namespace Go.Rf
open Go

def opdOf : Operand → Option Opd
  | .tmp t => some (.t t)
  | .const v => if pureV 12 v then some (.c v) else none
  | .func f => some (.c (.func (.func f) #[] #[]))
  | .global _ => none

def opdsOf : List Operand → Option (List Opd)
  | [] => some []
  | x :: l => match opdOf x with
    | some o => match opdsOf l with
      | some r => some (o :: r)
      | none => none
    | none => none

def partsOf : List (Nat × Operand) → Option (List (Nat × Opd))
  | [] => some []
  | x :: l => match opdOf x.2 with
    | some o => match partsOf l with
      | some r => some ((x.1, o) :: r)
      | none => none
    | none => none

def optOf : Option Operand → Option (Option Opd)
  | none => some none
  | some x => match opdOf x with
    | some o => some (some o)
    | none => none

def sizeT (P : Program) (t : TypeId) : Option Nat := (P.info? t).map (·.size)
def zeroT (P : Program) (t : TypeId) : Option Value := match P.info? t with
  | some i => match i.zero with
    | some z => if pureV 12 z then some z else none
    | none => none
  | none => none
def aggT (P : Program) (t : TypeId) : Option Bool := match P.underlying t with
  | some (.struct _) => some true
  | some (.array _ _) => some true
  | some _ => some false
  | none => none

/-- The zero of an element type, its cells as many as its size. -/
def zeroCellsT (P : Program) (e : TypeId) : Option (List Value) := match zeroT P e, sizeT P e with
  | some z, some n => if len (cellsL z) = n ∧ 0 < n then some (cellsL z) else none
  | _, _ => none

def fieldsD (d : TypeId → Option EqD) (P : Program) : List Field → Option (List (Nat × Nat × Bool × EqD))
  | [] => some []
  | f :: fs => match fieldsD d P fs with
    | none => none
    | some r => if f.name = "_" then some r else match sizeT P f.type, aggT P f.type, d f.type with
      | some n, some a, some e => some ((f.offset, n, a, e) :: r)
      | _, _, _ => none

def eqD (P : Program) : Nat → TypeId → Option EqD
  | 0, _ => none
  | d + 1, t => match P.underlying t with
    | some .bool => some .bool
    | some (.int _) => some .int
    | some .string => some .str
    | some (.pointer e) => match sizeT P e with
      | some n => if n = 0 then none else some .ptr
      | none => none
    | some (.slice _) => some .slice
    | some (.map _ _) => some .map
    | some (.func _ _ _) => some .func
    | some (.struct fs) => if P.stoodInHeld t then none else match fieldsD (eqD P d) P fs.toList with
      | some l => some (.fields l)
      | none => none
    | _ => none

def placesT (P : Program) : List Field → Option (List (Nat × Nat))
  | [] => some []
  | f :: fs => match sizeT P f.type, placesT P fs with
    | some n, some r => some ((f.offset, n) :: r)
    | _, _ => none

def u8T (P : Program) (e : TypeId) : Bool := match P.underlying e with
  | some (.int .u8) => true
  | _ => false

def keyT (P : Program) (t : TypeId) : Option KT := match P.underlying t with
  | some (.int k) => some (.int k)
  | some .string => some .str
  | some .bool => some .bl
  | _ => none

def copOf (P : Program) (op : Op) : Option COp :=
  match op with
  | .move x | .assign x => (opdOf x).map .mv
  | .pick c a b => match opdOf c, opdOf a, opdOf b with
    | some c, some a, some b => some (.pick c a b)
    | _, _, _ => none
  | .alloc e => match zeroT P e with
    | some z => some (.box e (.c z))
    | none => none
  | .box e x => (opdOf x).map (.box e)
  | .build t parts => match zeroT P t, partsOf parts.toList with
    | some z, some ps => match P.underlying t with
      | some (.struct fs) => match placesT P fs.toList with
        | some pl => some (.build (cellsL z) pl ps)
        | none => none
      | some (.array n e) => match sizeT P e with
        | some k => if n ≤ 4096 then some (.build (cellsL z) ((List.range n).map fun i => (i * k, k)) ps) else none
        | none => none
      | _ => none
    | _, _ => none
  | .buildSlice t n parts => match P.underlying t, partsOf parts.toList with
    | some (.slice e), some ps => match sizeT P e, zeroCellsT P e with
      | some k, some z => if n * k ≤ 2 ^ 24 then some (.bslice e n k z ps) else none
      | _, _ => none
    | _, _ => none
  | .load t a => match aggT P t, sizeT P t, opdOf a with
    | some true, some n, some x => some (.ldn n x)
    | some false, _, some x => some (.ld1 x)
    | _, _, _ => none
  | .store t a v => match sizeT P t, opdOf a, opdOf v with
    | some n, some a, some v => some (.st n a v)
    | _, _, _ => none
  | .nilCheck x => (opdOf x).map .nilck
  | .binOp op xt x y _ => match opdOf x, opdOf y with
    | some x, some y => match op with
      | .eql | .neq => match eqD P 20 xt with
        | some d => if P.eqGuardType P.depth xt then none else some (.bin op d x y)
        | none => none
      | _ => some (.bin op .no x y)
    | _, _ => none
  | .unOp op _ x => (opdOf x).map (.un op)
  | .convert src dst x => match opdOf x, P.underlying src, P.underlying dst with
    | some x, some (.int _), some (.int k) => some (.cvi k x)
    | some x, some .string, some .string => some (.cvss x)
    | some x, some .string, some (.slice e) => if u8T P e ∧ sizeT P e = some 1 then some (.cvsb e x) else none
    | some x, some (.slice e), some .string => if u8T P e then some (.cvbs x) else none
    | _, _, _ => none
  | .extract x i => (opdOf x).map (.ext i)
  | .fieldAddr s x f => match P.underlying s, opdOf x with
    | some (.struct fs), some x => match fs[f]? with
      | some fd => match sizeT P fd.type with
        | some n => if n = 0 then none else some (.fad fd.offset x)
        | none => none
      | none => none
    | _, _ => none
  | .field t x f => match P.underlying t, opdOf x with
    | some (.struct fs), some x => match fs[f]? with
      | some fd => match sizeT P fd.type, aggT P fd.type with
        | some n, some a => some (.fld fd.offset n a x)
        | _, _ => none
      | none => none
    | _, _ => none
  | .indexAddr t x i => match opdOf x, opdOf i, P.underlying t with
    | some x, some i, some (.slice e) => (sizeT P e).map fun n => .ixs n x i
    | some x, some i, some (.array k e) => (sizeT P e).map fun n => .ixa k n x i
    | _, _, _ => none
  | .index t x i => match opdOf x, opdOf i, P.underlying t with
    | some x, some i, some .string => some (.ixst x i)
    | some x, some i, some (.array k e) => match sizeT P e, aggT P e with
      | some n, some a => some (.ixag k n a x i)
      | _, _ => none
    | _, _, _ => none
  | .slice t x lo hi mx => match opdOf x, optOf lo, optOf hi, optOf mx with
    | some x, some lo, some hi, some mx => match P.underlying t with
      | some (.array n e) => (sizeT P e).map fun k => .slar n k x lo hi mx
      | some .string => match mx with
        | none => some (.slst x lo hi)
        | some _ => none
      | some (.slice e) => (sizeT P e).map fun k => .slsl k x lo hi mx
      | some (.pointer a) => match P.underlying a with
        | some (.array n e) => (sizeT P e).map fun k => .slar n k x lo hi mx
        | _ => none
      | _ => none
    | _, _, _, _ => none
  | .makeFunc fn a b => match opdsOf a.toList, opdsOf b.toList with
    | some a, some b => some (.mkfn fn a b)
    | _, _ => none
  | .makeMap t r => match P.underlying t, optOf r with
    | some (.map _ _), some r => some (.mkmap r)
    | _, _ => none
  | .makeSlice t l c => match P.underlying t, opdOf l, opdOf c with
    | some (.slice e), some l, some c => match zeroCellsT P e, P.info? e with
      | some z, some i => some (.mkslice e i.bytes z l c)
      | _, _ => none
    | _, _, _ => none
  | .lookup t x i ok => match P.underlying t, opdOf x, opdOf i with
    | some (.map k e), some x, some i => match keyT P k, zeroT P e with
      | some kt, some z => some (.mlook kt z ok x i)
      | _, _ => none
    | _, _, _ => none
  | .mapUpdate t m k v | .insert t m k v => match P.underlying t, opdOf m, opdOf k, opdOf v with
    | some (.map kt _), some m, some k, some v => (keyT P kt).map fun kt => .mupd kt m k v
    | _, _, _, _ => none
  | .range t x => match P.underlying t, opdOf x with
    | some (.map _ _), some x => some (.rangem x)
    | _, _ => none
  | .mapEntry t m k => match P.underlying t, opdOf m, opdOf k with
    | some (.map kt e), some m, some k => match keyT P kt, zeroT P e with
      | some kt, some z => some (.ment kt z m k)
      | _, _ => none
    | _, _, _ => none
  | .entryStore _ m b x => match opdOf m, opdOf b, opdOf x with
    | some m, some b, some x => some (.mest m b x)
    | _, _, _ => none
  | .entry x => (opdOf x).map .ent
  | .next x false => (opdOf x).map .nextm
  | .call { callee := .builtin b, args, argTypes } => match opdsOf args.toList with
    | none => none
    | some as => match b, as, argTypes.toList with
      | .len, [x], [t] => match P.underlying t with
        | some .string => some (.len 0 x)
        | some (.slice _) => some (.len 1 x)
        | some (.map _ _) => some (.len 2 x)
        | some (.array n _) => some (.mv (.c (.int .i64 (.ofNat n))))
        | _ => none
      | .append, [d, x], [t, u] => match P.underlying t, P.underlying u with
        | some (.slice _), some (.int _) => none
        | some (.slice e), some _ => match zeroCellsT P e, P.info? e with
          | some _, some i => some (.app e i.size i.bytes d x)
          | _, _ => none
        | _, _ => none
      | .copy, [d, x], [t, _] => match P.underlying t with
        | some (.slice e) => (sizeT P e).map fun n => .copy n d x
        | _ => none
      | .delete, [m, k], [t, _] => match P.underlying t with
        | some (.map kt _) => (keyT P kt).map fun kt => .mdel kt m k
        | _ => none
      | .clear, [x], [t] => match P.underlying t with
        | some (.map _ _) => some (.clr true [] x)
        | some (.slice e) => match zeroCellsT P e with
          | some z => some (.clr false z x)
          | none => none
        | _ => none
      | .min, l, _ => some (.mnmx false l)
      | .max, l, _ => some (.mnmx true l)
      | _, _, _ => none
  | .call { callee := .value f, args, .. } => match opdOf f, opdsOf args.toList with
    | some f, some as => some (.call f as)
    | _, _ => none
  | _ => none

/-- 0: by its operands alone · 1: it reads the heap · 2: it makes a block · 3: it writes, or runs code -/
def COp.cls : COp → Nat
  | .ld1 _ |   .ldn _ _ | .cvbs _ | .slsl _ _ _ _ _ | .mlook _ _ _ _ _ | .len _ _ | .ent _ => 1
  | .bin _ d _ _ => match d with | .ptr | .fields _ => 1 | _ => 0
  | .box _ _ | .bslice _ _ _ _ _ | .mkmap _ | .mkslice _ _ _ _ _ | .cvsb _ _ => 2
  | .st _ _ _ | .mupd _ _ _ _ | .mdel _ _ _ | .app _ _ _ _ _ | .copy _ _ _ | .rangem _ | .nextm _ | .clr _ _ _ | .ment _ _ _ _ | .mest _ _ _ | .call _ _ => 3
  | _ => 0

def itemOf (P : Program) (ops : Array Oper) (o : Oper) : Option Item :=
  match copOf P o.op, (match o.guard with
    | none => some none
    | some (j, want) => match (ops[j]?).bind (·.dst) with
      | some t => some (some (t, want))
      | none => none) with
  | some c, some g => some { dst := o.dst, guard := g, op := c, back := 0, eff := false }
  | _, _ => none

def itemsOf (P : Program) (ops : Array Oper) : List Oper → Option (List Item)
  | [] => some []
  | o :: l => match itemOf P ops o with
    | some i => match itemsOf P ops l with
      | some r => some (i :: r)
      | none => none
    | none => none

/-- The operands. -/
def optL : Option Opd → List Opd
  | none => []
  | some x => [x]

def COp.opds : COp → List Opd
  | .mv x | .ld1 x | .ldn _ x | .box _ x | .nilck x | .un _ x | .cvi _ x | .cvsb _ x | .cvbs x | .cvss x | .ext _ x | .fad _ x | .fld _ _ _ x | .len _ x | .rangem x | .nextm x | .ent x | .clr _ _ x => [x]
  | .pick a b c => [a, b, c]
  | .st _ a b | .bin _ _ a b | .ixs _ a b | .ixa _ _ a b | .ixst a b | .ixag _ _ _ a b | .mkslice _ _ _ a b | .mlook _ _ _ a b | .mdel _ a b | .app _ _ _ a b | .copy _ a b | .ment _ _ a b => [a, b]
  | .mupd _ a b c | .mest a b c => [a, b, c]
  | .build _ _ ps | .bslice _ _ _ _ ps => ps.map (·.2)
  | .slst x lo hi => x :: (optL lo ++ optL hi)
  | .slsl _ x lo hi mx | .slar _ _ x lo hi mx => x :: (optL lo ++ optL hi ++ optL mx)
  | .mkfn _ a b => a ++ b
  | .mkmap r => optL r
  | .mnmx _ l => l
  | .call f l => f :: l

/-! Regions that draw their order: one order, and a look at it. -/
/-- The order in which such a region is run: before each operation that writes, all that must come before it, and no more. -/
def lazyOrder (cls : List Nat) (before : Array Nat) : List Nat :=
  let n := cls.length
  let step (acc : List Nat) (e : Nat) : List Nat :=
    acc ++ (List.range n).filter fun i => !acc.contains i && (i == e || (before.getD e 0).testBit i)
  let acc := ((List.range n).filter fun i => cls.getD i 0 == 3).foldl step []
  acc ++ (List.range n).filter fun i => !acc.contains i

def posOf : List Nat → Nat → Nat
  | [], _ => 0
  | x :: l, i => if x = i then 0 else posOf l i + 1

/-- The places of what must come right before each operation. -/
def predsP (ops : Array Oper) (ord : List Nat) : List (List Nat) :=
  ord.map fun i => ((ops.getD i default).after.toList.filter (Region.binds .any ·)).map fun e => posOf ord e.on

/-- All that must come before, as numbers. -/
def masksP (pr : List (List Nat)) : List Nat :=
  pr.foldl (fun acc ps => acc ++ [ps.foldl (fun m p => m ||| 2 ^ p ||| acc.getD p 0) 0]) []

/-- The slots that an item looks at. -/
def Item.looks (it : Item) : List Nat :=
  (match it.guard with | some (t, _) => [t] | none => []) ++ it.op.opds.filterMap fun | .t n => some n | .c _ => none

def clash (x y : Item) : Bool :=
  (match x.dst with | some d => y.looks.contains d || y.dst == some d | none => false) || (match y.dst with | some d => x.looks.contains d | none => false)

/-- How many states between two places. -/
def between (cls : List Nat) (p q : Nat) : Nat := ((List.range q).filter fun k => p < k && 2 ≤ cls.getD k 0).length

def backsP (cls : List Nat) (M : List Nat) : List Nat :=
  (List.range cls.length).map fun q => if cls.getD q 0 = 1 then
      ((List.range q).filter fun p => 2 ≤ cls.getD p 0 && !((List.range q).any fun p' => p ≤ p' && cls.getD p' 0 = 3 && (M.getD q 0).testBit p')).length
    else 0

def mkIts (l : List Item) : List Nat → List Nat → Option (List Item)
  | [], [] => some []
  | i :: ord, b :: bk => match l[i]?, mkIts l ord bk with
    | some it, some r => some ({ it with back := b, eff := decide (2 ≤ it.op.cls) } :: r)
    | _, _ => none
  | _, _ => none

/-- The look at one place of the order. -/
def dAt (ops : Array Oper) (ord : List Nat) (its : List Item) (cls : List Nat) (pr : List (List Nat)) (M : List Nat) (q : Nat) : Bool :=
  let i := ord.getD q 0
  let mq := M.getD q 0
  let ps := pr.getD q []
  match its[q]? with
  | none => false
  | some it =>
    decide (i < ops.size) && cls.getD q 0 == it.op.cls &&
    ps.all (fun p => decide (p < q)) &&
    (ops.getD i default).after.toList.all (fun e => !Region.binds .any e || ps.any fun p => ord.getD p 0 == e.on) &&
    (List.range q).all (fun k => !mq.testBit k || ps.contains k || ps.any fun p => decide (k < p) && (M.getD p 0).testBit k) &&
    (List.range q).all (fun p => ord.getD p 0 != i && (it.op.cls != 3 || mq.testBit p) && (match its[p]? with | some x => !clash x it || mq.testBit p | none => false)) &&
    (it.op.cls != 1 || (List.range q).all fun p => !(2 ≤ cls.getD p 0) || decide (between cls p q < it.back) || (List.range q).any fun p' => p ≤ p' && cls.getD p' 0 == 3 && mq.testBit p')

def dOk (ops : Array Oper) (ord : List Nat) (its : List Item) : Bool :=
  let cls := its.map (·.op.cls)
  let pr := predsP ops ord
  let M := masksP pr
  ord.length == ops.size && its.length == ops.size && (List.range ops.size).all (fun i => ord.contains i) && (List.range ops.size).all (fun q => dAt ops ord its cls pr M q)

def codeOf (P : Program) : Code → Option CCode
  | .skip => some .skip
  | .label _ => some .skip
  | .region _ ops draw => match itemsOf P ops ops.toList with
    | none => none
    | some l => match draw with
      | false => some (.ops l)
      | true =>
        match mkIts l (lazyOrder (l.map (·.op.cls)) (Region.before ops)) (backsP (((lazyOrder (l.map (·.op.cls)) (Region.before ops)).filterMap (l[·]?)).map (·.op.cls)) (masksP (predsP ops (lazyOrder (l.map (·.op.cls)) (Region.before ops))))) with
        | some its => if dOk ops (lazyOrder (l.map (·.op.cls)) (Region.before ops)) its then some (.dops (lazyOrder (l.map (·.op.cls)) (Region.before ops)) its) else none
        | none => none
  | .seq a b => match codeOf P a, codeOf P b with
    | some a, some b => some (.seq a b)
    | _, _ => none
  | .cond c a b => match opdOf c, codeOf P a, codeOf P b with
    | some c, some a, some b => some (.cond c a b)
    | _, _, _ => none
  | .block id a => (codeOf P a).map (.block id)
  | .loop a => (codeOf P a).map .loop
  | .exit id => some (.exit id)
  | .scope a => (codeOf P a).map .scope
  | .ret => some .ret
  | .goto _ | .rangeFunc .. | .refuse _ => none

def rvOf (P : Program) : ResultVar → Option RV
  | .tmp t => some (.tmp t)
  | .cell a t => match aggT P t, sizeT P t with
    | some true, some n => some (.cells a n)
    | some false, _ => some (.cell a)
    | _, _ => none

def rvsOf (P : Program) : List ResultVar → Option (List RV)
  | [] => some []
  | x :: l => match rvOf P x with
    | some v => match rvsOf P l with
      | some r => some (v :: r)
      | none => none
    | none => none

def fnOf (P : Program) (fn : Func) : Option CFn :=
  match fn.body with
  | none => none
  | some c => match codeOf P c, rvsOf P fn.results.toList with
    | some b, some r => if fn.name = "runtime.NumGoroutine" then none else some { ntmps := fn.ntmps, body := b, res := r }
    | _, _ => none

end Go.Rf
