/- Am: the model's code, with all that the types say resolved. -/
import Derived.Test.YtefbdhbfhgapeaaDoorAmBase
namespace Go.Am

/-- A value without an address, as an abstract one. -/
def scOf : Value → Option V
  | .bool b => some (.sc (.bool b))
  | .int k n => some (.sc (.int k n))
  | .string s => some (.sc (.string s))
  | .pointer none => some (.sc (.pointer none))
  | .slice none 0 0 => some (.sc (.slice none 0 0))
  | .map none => some (.sc (.map none))
  | .nilFunc => some (.sc .nilFunc)
  | .nilIface => some (.sc .nilIface)
  | _ => none

def scsOf : List Value → Option (List V)
  | [] => some []
  | v :: r => (scOf v).bind fun v => (scsOf r).map (v :: ·)

def valOf : Value → Option V
  | .agg cs => (scsOf cs.toList).map .agg
  | v => scOf v

section
variable (P : Program) (gl : Nat → Option (List V))

def opd : Operand → Option Opd
  | .tmp t => some (.tmp t)
  | .const v => (valOf v).map .val
  | .global g => (gl g).map fun cs => .val (.eptr cs 0)
  | .func f => some (.val (.fn (.func f) [] []))

def opds : List Operand → Option (List Opd)
  | [] => some []
  | x :: r => (opd gl x).bind fun x => (opds r).map (x :: ·)

def opdO : Option Operand → Option (Option Opd)
  | none => some none
  | some x => (opd gl x).map some

def sizeO (t : TypeId) : Option Nat := (P.info? t).map (·.size)
/-- The cells of a type's zero value. -/
def zeroO (t : TypeId) : Option (List V) := ((P.info? t).bind (·.zero)).bind fun z => scsOf z.cells.toList
def aggT (t : TypeId) : Option Bool := (P.underlying t).map fun d => match d with | .struct _ | .array _ _ => true | _ => false
/-- How a variable of a type is read: by its one cell, or as so many. -/
def shapeO (t : TypeId) : Option (Option Nat) := (aggT P t).bind fun a => (sizeO P t).bind fun n => if a then some (some n) else if n = 1 then some none else none

/-- The elements' size of a slice that may be grown. -/
def growElem (e : TypeId) : Option Nat := (P.info? e).bind fun i => i.zero.bind fun z => if 0 < i.size ∧ i.bytes ≤ 1024 ∧ z.cells.size = i.size then some i.size else none

/-- A number of no variable: a function that is read under a list with it looks at no memory that may be written. -/
def lookNo : Nat := 1000000007
def rowNo : Nat := 2000000011
def glz (z : Bool) (ts rs : List Nat) (gl : Nat → Option (List V)) : Nat → Option (List V) := fun g => if (z && g == lookNo) || ts.any (fun t => g == lookNo + 1 + t) || rs.any (fun t => g == rowNo + t) then some [] else gl g

/-- The elements' size of an array that is laid as a row. -/
def arrElem (t : TypeId) : Option Nat := match P.underlying t with
  | some (.array n e) => if n = 0 then none else growElem P e
  | _ => none

def fieldsPlaces : List Field → Option (List (Nat × Nat))
  | [] => some []
  | f :: r => (sizeO P f.type).bind fun n => (fieldsPlaces r).map ((f.offset, n) :: ·)

def buildParts (pl : List (Nat × Nat)) : List (Nat × Operand) → Option (List (Nat × Nat × Opd))
  | [] => some []
  | (i, x) :: r => (pl[i]?).bind fun p => (opd gl x).bind fun y => (buildParts pl r).map ((p.1, p.2, y) :: ·)

def slcParts : List (Nat × Operand) → Option (List (Nat × Opd))
  | [] => some []
  | (i, x) :: r => (opd gl x).bind fun y => (slcParts r).map ((i, y) :: ·)

/-- The leaves that '==' of two structs compares: cells of numbers, bools and strings. -/
def leavesFs (f : TypeId → Option (List (Nat × LK))) : List Field → Option (List (Nat × LK))
  | [] => some []
  | x :: r => if x.name = "_" then leavesFs f r else
      (f x.type).bind fun l => (shapeO P x.type).bind fun n => if l.all (fun i => decide (i.1 < n.getD 1)) then (leavesFs f r).map (l.map (fun i => (x.offset + i.1, i.2)) ++ ·) else none

def leavesOf : Nat → TypeId → Option (List (Nat × LK))
  | 0, _ => none
  | d + 1, t => match P.underlying t with
    | some .bool => some [(0, .b)]
    | some (.int _) => some [(0, .i)]
    | some .string => some [(0, .s)]
    | some (.struct fs) => if P.stoodInHeld t then none else leavesFs P (leavesOf d) fs.toList
    | _ => none

def nkOf : TypeDesc → Option NK
  | .pointer _ => some .ptr
  | .func _ _ _ => some .func
  | .interface _ => some .iface
  | .map _ _ => some .map
  | .slice _ => some .slice
  | _ => none

def isNilK : NK → Operand → Bool
  | .ptr, .const (.pointer none) | .func, .const .nilFunc | .iface, .const .nilIface | .map, .const (.map none) | .slice, .const (.slice none 0 0) => true
  | _, _ => false

def compBin (op : BinOp) (t : TypeId) (x y : Operand) : Option AOp :=
  (P.underlying t).bind fun d => (opd gl x).bind fun a => (opd gl y).bind fun b =>
  match d with
  | .int _ | .string => some (.bin op a b)
  | .bool => match op with
    | .eql => some (.eqBool false a b)
    | .neq => some (.eqBool true a b)
    | _ => none
  | .pointer t => 
    if isNilK .ptr x || isNilK .ptr y then
      match op with
      | .eql => if isNilK .ptr y then some (.isNil false .ptr a) else if isNilK .ptr x then some (.isNil false .ptr b) else none
      | .neq => if isNilK .ptr y then some (.isNil true .ptr a) else if isNilK .ptr x then some (.isNil true .ptr b) else none
      | _ => none
    else (sizeO P t).bind fun s => if s = 0 then none else match op with
      | .eql => some (.eqPtr false a b)
      | .neq => some (.eqPtr true a b)
      | _ => none
  | d => (nkOf d).bind fun k =>
    match op with
    | .eql => if isNilK k y then some (.isNil false k a) else if isNilK k x then some (.isNil false k b) else none
    | .neq => if isNilK k y then some (.isNil true k a) else if isNilK k x then some (.isNil true k b) else none
    | _ => none

def compConv (src dst : TypeId) (x : Operand) : Option AOp :=
  (P.underlying src).bind fun s => (P.underlying dst).bind fun d => (opd gl x).bind fun a =>
  match s, d with
  | .int _, .int k => some (.conv k a)
  | .string, .string => some (.idStr a)
  | .slice e, .string => match P.underlying e with
    | some (.int .u8) => some (.strOf a)
    | _ => none
  | .string, .slice e => match P.underlying e with
    | some (.int .u8) => some (.bytesOf a)
    | _ => none
  | .slice _, .slice e => if src = dst then match P.underlying e with
      | some (.int .u8) => some (.markB a)
      | _ => none
    else none
  | .pointer t, .unsafePointer => (sizeO P t).bind fun s => if s = 0 then none else some (.uncast a)
  | .unsafePointer, .pointer u => (sizeO P u).bind fun s => if liesAt P P.depth u (s / P.cellsOf u) 0 u 1 then some (.cast u s a) else none
  | _, _ => none

def compBuiltin (b : Builtin) (ts : List TypeId) (xs : List Operand) : Option AOp :=
  match b, ts, xs with
  | .len, [t], [x] => (P.underlying t).bind fun d => match d with
    | .string => (opd gl x).map .lenStr
    | .slice _ => (opd gl x).map .len
    | .array n _ => some (.lenC n)
    | _ => none
  | .append, [t, u], [s, x] => (P.underlying t).bind fun d => match d with
    | .slice e => (growElem P e).bind fun sz => (P.underlying u).bind fun du => match du with
      | .slice _ | .string => (opd gl s).bind fun a => (opd gl x).map fun b => .append e sz a b
      | _ => none
    | _ => none
  | .cap, [t], [x] => (P.underlying t).bind fun d => match d with
    | .slice _ => (opd gl x).map .cap
    | _ => none
  | .copy, [t, u], [s, x] => (P.underlying t).bind fun d => match d with
    | .slice e => (growElem P e).bind fun sz => (P.underlying u).bind fun du => match du with
      | .slice _ | .string => (opd gl s).bind fun a => (opd gl x).map fun b => .copy sz a b
      | _ => none
    | _ => none
  | .unsafeSliceData, _, [x] => (opd gl x).map .sliceData
  | .unsafeString, [pt, _], [x, n] => (P.underlying pt).bind fun d => match d with
    | .pointer u => if P.cellsOf u = 1 then (opd gl x).bind fun x => (opd gl n).map fun n => .strData u x n else none
    | _ => none
  | .max, _, xs => (opds gl xs).map (.mnmx true)
  | .min, _, xs => (opds gl xs).map (.mnmx false)
  | _, _, _ => none

def compCall (c : Call) : Option AOp :=
  match c.callee with
  | .value f => (opd gl f).bind fun f => (opds gl c.args.toList).map (.call f)
  | .builtin b => compBuiltin P gl b c.argTypes.toList c.args.toList
  | .invoke _ _ => none

def compOp : Op → Option AOp
  | .move x | .assign x => (opd gl x).map .mv
  | .pick c a b => (opd gl c).bind fun c => (opd gl a).bind fun a => (opd gl b).map fun b => .pick c a b
  | .alloc t => (zeroO P t).map fun zs => match arrElem P t with
    | some sz => .allocA t sz zs
    | none => .alloc t zs
  | .box t x => (opd gl x).map fun x => if (gl lookNo).isSome || (gl (lookNo + 1 + t)).isSome then .boxF t x else match arrElem P t with
    | some sz => .boxA t sz x
    | none => .box t x
  | .build t ps => (P.underlying t).bind fun d => match d with
    | .struct fs => (zeroO P t).bind fun zs => (fieldsPlaces P fs.toList).bind fun pl => (buildParts gl pl ps.toList).map (.build zs)
    | .array n e => (zeroO P t).bind fun zs => (sizeO P e).bind fun s => (buildParts gl ((List.range n).map fun i => (i * s, s)) ps.toList).map (.build zs)
    | _ => none
  | .buildSlice t n ps => (P.underlying t).bind fun d => match d with
    | .slice e => (growElem P e).bind fun sz => (zeroO P e).bind fun zs => if n * sz ≤ 2 ^ 24 ∧ zs.length = sz then (slcParts gl ps.toList).map (.bslice (gl (rowNo + e)).isSome e sz zs n) else none
    | _ => none
  | .load t a => (shapeO P t).bind fun n => (opd gl a).map (.load n)
  | .store t a x => (sizeO P t).bind fun n => (opd gl a).bind fun a => (opd gl x).map fun x => .store n a x
  | .nilCheck x => (opd gl x).map .nilCheck
  | .binOp op t x y _ => match P.underlying t with
    | some (.struct _) => (leavesOf P 8 t).bind fun ls => (opd gl x).bind fun a => (opd gl y).bind fun b => match op with
      | .eql => some (.eqAgg false ls a b)
      | .neq => some (.eqAgg true ls a b)
      | _ => none
    | _ => compBin P gl op t x y
  | .unOp op _ x => (opd gl x).map (.un op)
  | .convert s d x => compConv P gl s d x
  | .makeInterface t x => (P.underlying t).bind fun d => match d with
    | .interface _ => none
    | _ => (opd gl x).map (.makeIface t)
  | .makeFunc f a c => (opds gl a.toList).bind fun a => (opds gl c.toList).map fun c => .makeFunc f a c
  | .makeSlice t l c => (P.underlying t).bind fun d => match d with
    | .slice e => (growElem P e).bind fun sz => (zeroO P e).bind fun zs => if zs.length = sz then (opd gl l).bind fun l => (opd gl c).map fun c => .makeSlice e sz zs l c else none
    | _ => none
  | .slice t x lo hi mx => (P.underlying t).bind fun d => (opd gl x).bind fun x => (opdO gl lo).bind fun lo => (opdO gl hi).bind fun hi => (opdO gl mx).bind fun mx =>
    match d with
    | .string => if mx.isNone then some (.sliceStr x lo hi) else none
    | .slice e => (growElem P e).map fun sz => .slice sz x lo hi mx
    | .array n e => if mx.isNone then (growElem P e).map fun sz => .sliceArr n sz x lo hi else none
    | _ => none
  | .fieldAddr t x i => (P.underlying t).bind fun d => match d with
    | .struct fs => (fs[i]?).bind fun f => (sizeO P f.type).bind fun s => if 0 < s then (opd gl x).map (.fieldAddr f.offset) else none
    | _ => none
  | .field t x i => (P.underlying t).bind fun d => match d with
    | .struct fs => (fs[i]?).bind fun f => (shapeO P f.type).bind fun n => (opd gl x).map (.field n f.offset)
    | _ => none
  | .indexAddr t x i => (P.underlying t).bind fun d => (opd gl x).bind fun x => (opd gl i).bind fun i => match d with
    | .slice e => (sizeO P e).map fun s => .indexS s x i
    | .array n e => (sizeO P e).map fun s => .indexA n s x i
    | _ => none
  | .index t x i => (P.underlying t).bind fun d => (opd gl x).bind fun x => (opd gl i).bind fun i => match d with
    | .array n e => (shapeO P e).bind fun m => (sizeO P e).map fun s => .idxArr m n s x i
    | .string => some (.idxStr x i)
    | _ => none
  | .extract x i => (opd gl x).map fun x => .extract x i
  | .call c => compCall P gl c
  | _ => none

/-- What is not served comes to an operation that fails. -/
def compOpT (o : Op) : AOp := (compOp P gl o).getD .fail

def compOper (nt : Nat) (ops : List Oper) (o : Oper) : Option AOper :=
  let op := compOpT P gl o.op
  if o.dst.all (· < nt) then
    match o.guard with
    | none => some ⟨o.dst, op, none, []⟩
    | some (j, want) => ((ops[j]?).bind (·.dst)).map fun d => ⟨o.dst, op, some (d, want), []⟩
  else none

def compOps (nt : Nat) (all : List Oper) : List Oper → Option (List AOper)
  | [] => some []
  | o :: r => (compOper P gl nt all o).bind fun o => (compOps nt all r).map (o :: ·)

end

/-! Which regions give one answer whatever order Go takes. -/

def opdTmps : List Opd → List Nat
  | [] => []
  | .tmp t :: r => t :: opdTmps r
  | .val _ :: r => opdTmps r

/-- Operations whose value hangs on their operands alone, and which leave memory as it is. -/
def AOp.inert : AOp → Bool
  | .mv _ | .pick .. | .build .. | .nilCheck _ | .bin .. | .eqBool .. | .eqAgg .. | .isNil .. | .un .. | .conv .. | .bytesOf _ | .makeIface .. | .makeFunc .. | .sliceStr .. | .sliceArrF .. | .boxF ..
  | .markB _ | .idStr _ | .loadF .. | .indexF .. | .fail | .fieldAddr .. | .field .. | .indexA .. | .idxArr .. | .idxStr .. | .extract .. | .lenStr _ | .len _ | .cap _ | .lenC _ | .mnmx .. => true
  | _ => false

/-- Operations that only read memory. -/
def AOp.reads : AOp → Bool
  | .load .. | .strOf _ | .indexS .. | .slice _ _ _ _ none | .sliceArr .. | .uncast _ | .cast .. | .eqPtr .. | .sliceData _ => true
  | op => op.inert

def AOper.slots (o : AOper) : List Nat := (match o.guard with | some (g, _) => [g] | none => []) ++ opdTmps o.op.opds ++ o.off

def memO (x : Option Nat) (l : List Nat) : Bool :=
  match x with
  | some d => l.contains d
  | none => false

/-- Operations that lay new blocks, and touch no old one. -/
def AOp.grows (quiet : FuncId → Nat) : AOp → Bool
  | .alloc .. | .box .. | .bslice .. | .makeSlice .. | .allocA .. | .boxA .. => true
  | .call (.val (.fn (.func k) [] [])) _ => quiet k != 0
  | _ => false

/-- .. and calls of functions that look at no memory. -/
def AOp.inertQ (quiet : FuncId → Nat) : AOp → Bool
  | .call (.val (.fn (.func k) [] [])) _ => quiet k == 2
  | op => op.inert

/-- A store that keeps off what is read. -/
def AOper.clear (x y : AOper) : Bool :=
  match y.op with
  | .store _ (.tmp t) _ => x.off.contains t
  | _ => false

/-- May the second of two operations go first? -/
def commB (quiet : FuncId → Nat) (x y : AOper) : Bool :=
  !memO x.dst y.slots && !memO y.dst x.slots && (match x.dst, y.dst with | some a, some b => a != b | _, _ => true) &&
    (x.op.inertQ quiet || y.op.inertQ quiet || (x.op.reads && (y.op.reads || y.op.grows quiet || x.clear y)))

/-- Does i wait for x, be it by way of others? -/
def depB (ops : List Oper) : Nat → Nat → Nat → Bool
  | 0, _, _ => false
  | k + 1, i, x => match ops[i]? with
    | some o => o.after.toList.any fun e => Region.binds .any e && (e.on == x || depB ops k e.on x)
    | none => false

/-- May the operations, taken in the order 'pi', be taken in each order that Go leaves open? -/
def okPairs (quiet : FuncId → Nat) (ops : List Oper) (l : List AOper) : List Nat → Bool
  | [] => true
  | x :: r => r.all (fun i => depB ops ops.length i x || (match l[x]?, l[i]? with | some a, some b => commB quiet a b | _, _ => false)) && okPairs quiet ops l r

def nodupB : List Nat → Bool
  | [] => true
  | x :: r => !r.contains x && nodupB r

def okDraw (quiet : FuncId → Nat) (ops : List Oper) (l : List AOper) (pi : List Nat) : Bool :=
  okPairs quiet ops l pi && pi.length == ops.length && nodupB pi && pi.all (fun i => decide (i < ops.length)) && (List.range ops.length).all (fun i => pi.contains i &&
    (match ops[i]? with | some o => o.after.toList.all fun e => !Region.binds .any e || decide (e.on < i) | none => true))

/-- Reading memory that is never written again, and no other. -/
def AOp.frz : AOp → AOp
  | .load n a => .loadF n a
  | .indexS sz x i => .indexF sz x i
  | .sliceArr n sz x lo hi => .sliceArrF n sz x lo hi
  | op => op

def AOper.frz (o : AOper) : AOper := { o with op := o.op.frz }

/-- Where the stores of a region go, as far as that is told from outside. -/
def targets (l : List AOper) : List Nat :=
  (l.flatMap fun o => match o.op with | .store _ (.tmp t) _ => [t] | _ => []).filter fun t => l.all fun o => o.dst != some t

/-- A read that keeps off the stores. -/
def AOper.keep (av : List Nat) (o : AOper) : AOper := if o.op.reads && !o.op.inert then { o with off := av } else o

/-- An order: what only reads goes first, where it may. -/
def readsFirst (ops : List Oper) (l : List AOper) : Nat → List Nat → List Nat
  | 0, done => done
  | k + 1, done =>
    let ready := (List.range ops.length).filter fun i => !done.contains i && (match ops[i]? with | some o => o.after.toList.all fun e => !Region.binds .any e || done.contains e.on | none => false)
    match ready.find? (fun i => match l[i]? with | some o => o.op.reads | none => false) with
    | some i => readsFirst ops l k (done ++ [i])
    | none => match ready with
      | i :: _ => readsFirst ops l k (done ++ [i])
      | [] => done

/-- The operations, taken in an order. -/
def takeOrder (l : List AOper) (pi : List Nat) : List AOper := pi.map fun i => l.getD i default

end Go.Am
