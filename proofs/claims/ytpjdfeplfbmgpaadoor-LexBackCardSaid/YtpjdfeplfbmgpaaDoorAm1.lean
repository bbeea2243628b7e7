/- The abstract machine and what is proved in it, part 1. -/
import GoSem.Dispatch
import Derived.Laws.CopyRow
import Derived.Laws.AppendOwn
import Derived.Below
import Derived.Laws.StructEq
section
/- Am: an abstract machine over the model's own code. Values are trees: a slice that nobody writes is a list. This text: values, memory, what one operation does. -/
namespace Go.Am

/-- What is known of a slice's capacity: nothing; that it is its length; that its elements are a literal's, in memory of the run's own. -/
inductive Cp where
  | any | full | lit
  deriving Inhabited, DecidableEq

def Cp.isFull : Cp → Bool
  | .any => false
  | _ => true

/-- Abstract values. 'slc ex sz rows': memory that is never written again, a list of elements, each a list of 'sz' cells ('ex': what is known of its capacity).
'hsl b e off len': elements of the row b, at its epoch e. 'ptr': a cell of a box; 'rptr': a cell of an element of a row; 'eptr': a cell of memory that is never written. -/
inductive V where
  | undef
  | sc (v : Value)
  | agg (cs : List V)
  | tup (vs : List V)
  | slc (ex : Cp) (sz : Nat) (rows : List (List V))
  | hsl (b e off len : Nat)
  | ptr (b off : Nat)
  | rptr (b e i off : Nat)
  | eptr (cs : List V) (off : Nat)
  | fn (f : Fn) (first captured : List V)
  | ifc (t : TypeId) (v : V)
  | mp (b : Nat)
  | opq
  deriving Inhabited

/-- What a block of abstract memory holds. -/
inductive Obj where
  | dead
  | box (t : TypeId) (cs : List V)
  | row (t : TypeId) (sz e : Nat) (rows : List (List V))
  | mmap (es : List (Value × V))
  deriving Inhabited

abbrev Heap := List Obj
abbrev Env := Nat → V

def Env.upd (en : Env) (t : Nat) (v : V) : Env := fun x => if x = t then v else en x
def Env.put (en : Env) : Option Nat → V → Env
  | some t, v => en.upd t v
  | none, _ => en

def V.cells : V → List V
  | .agg cs => cs
  | v => [v]

abbrev V.int (n : Int) : V := .sc (.int .i64 n)
abbrev V.bool (b : Bool) : V := .sc (.bool b)
abbrev V.str (s : ByteArray) : V := .sc (.string s)
abbrev V.nilS : V := .sc (.slice none 0 0)

/-- Operands. -/
inductive Opd where
  | tmp (t : Nat)
  | val (v : V)
  deriving Inhabited

def Opd.get (en : Env) : Opd → V
  | .tmp t => en t
  | .val v => v

/-- The most elements that a slice may come to, and bytes that a string may. -/
def lim : Nat := 2 ^ 36

/-- Kinds of what may be nil. -/
inductive NK where
  | ptr | func | iface | map | slice
  deriving Inhabited, DecidableEq

/-- Kinds of cells that are compared. -/
inductive LK where
  | b | i | s
  deriving Inhabited, DecidableEq

/-- Operations, with all that the types say resolved. -/
inductive AOp where
  | mv (x : Opd)
  | pick (c a b : Opd)
  | alloc (t : TypeId) (zs : List V)
  | box (t : TypeId) (x : Opd)
  | build (zs : List V) (parts : List (Nat × Nat × Opd))
  | bslice (w : Bool) (t : TypeId) (sz : Nat) (zs : List V) (len : Nat) (parts : List (Nat × Opd))
  | load (n : Option Nat) (a : Opd)
  | store (n : Nat) (a x : Opd)
  | nilCheck (x : Opd)
  | bin (op : BinOp) (x y : Opd)
  | eqBool (neg : Bool) (x y : Opd)
  | isNil (neg : Bool) (k : NK) (x : Opd)
  | eqAgg (neg : Bool) (leaves : List (Nat × LK)) (x y : Opd)
  | un (op : UnOp) (x : Opd)
  | conv (k : IntKind) (x : Opd)
  | strOf (x : Opd)
  | bytesOf (x : Opd)
  | makeIface (t : TypeId) (x : Opd)
  | makeFunc (f : Fn) (first captured : List Opd)
  | makeSlice (t : TypeId) (sz : Nat) (zs : List V) (len cap : Opd)
  | sliceStr (x : Opd) (lo hi : Option Opd)
  | slice (sz : Nat) (x : Opd) (lo hi mx : Option Opd)
  | sliceArr (n sz : Nat) (x : Opd) (lo hi : Option Opd)
  | fieldAddr (off : Nat) (x : Opd)
  | field (n : Option Nat) (off : Nat) (x : Opd)
  | indexS (sz : Nat) (x i : Opd)
  | indexA (n sz : Nat) (x i : Opd)
  | idxArr (m : Option Nat) (n sz : Nat) (x i : Opd)
  | idxStr (x i : Opd)
  | extract (x : Opd) (i : Nat)
  | lenStr (x : Opd)
  | len (x : Opd)
  | lenC (n : Nat)
  | mnmx (mx : Bool) (xs : List Opd)
  | append (t : TypeId) (sz : Nat) (s x : Opd)
  | call (f : Opd) (args : List Opd)
  | markB (x : Opd)
  | idStr (x : Opd)
  | uncast (x : Opd)
  | cast (u : TypeId) (s : Nat) (x : Opd)
  | eqPtr (neg : Bool) (x y : Opd)
  | sliceData (x : Opd)
  | strData (u : TypeId) (x n : Opd)
  | cap (x : Opd)
  | loadF (n : Option Nat) (a : Opd)
  | indexF (sz : Nat) (x i : Opd)
  | allocA (t : TypeId) (sz : Nat) (zs : List V)
  | boxA (t : TypeId) (sz : Nat) (x : Opd)
  | sliceArrF (n sz : Nat) (x : Opd) (lo hi : Option Opd)
  | copy (sz : Nat) (d x : Opd)
  | boxF (t : TypeId) (x : Opd)
  | makeMap
  | lookup (kd : LK) (z : V) (ok : Bool) (m k : Opd)
  | mapUpdate (kd : LK) (m k x : Opd)
  | lenM (m : Opd)
  | eqIfc (neg : Bool) (tab : List (TypeId × LK)) (x y : Opd)
  | fail
  deriving Inhabited

structure AOper where
  dst : Option Nat
  op : AOp
  guard : Option (Nat × Bool)
  off : List Nat
  deriving Inhabited

inductive ACode where
  | skip
  | ret
  | seq (a b : ACode)
  | cond (c : Opd) (a b : ACode)
  | region (ops : List AOper)
  | block (id : Nat) (c : ACode)
  | loop (c : ACode)
  | exit (id : Nat)
  | fail
  deriving Inhabited

inductive ARes where
  | tmp (t : Nat)
  | cell (t : Nat) (n : Option Nat)
  deriving Inhabited

structure AFunc where
  nparams : Nat
  ntmps : Nat
  pure : Bool
  frz : Bool := false
  bz : List Nat := []
  br : List Nat := []
  results : List ARes
  body : ACode
  deriving Inhabited

/-! ### What one operation does -/

def wrapV (k : IntKind) (n : Int) : Option V := some (.sc (.int k (k.wrap n)))

def binInt (op : BinOp) (k : IntKind) (a b : Int) : Option V :=
  match op with
  | .add => some (.sc (.int k (k.wrap (a + b))))
  | .sub => some (.sc (.int k (k.wrap (a - b))))
  | .mul => some (.sc (.int k (k.wrap (a * b))))
  | .quo => if b = 0 then none else some (.sc (.int k (k.wrap (a.tdiv b))))
  | .rem => if b = 0 then none else some (.sc (.int k (a.tmod b)))
  | .and => some (.sc (.int k (k.wrap (BitVec.ofInt k.bits a &&& BitVec.ofInt k.bits b).toNat)))
  | .or => some (.sc (.int k (k.wrap (BitVec.ofInt k.bits a ||| BitVec.ofInt k.bits b).toNat)))
  | .xor => some (.sc (.int k (k.wrap (BitVec.ofInt k.bits a ^^^ BitVec.ofInt k.bits b).toNat)))
  | .andNot => some (.sc (.int k (k.wrap (BitVec.ofInt k.bits a &&& ~~~ BitVec.ofInt k.bits b).toNat)))
  | .eql => some (.bool (a == b))
  | .neq => some (.bool (a != b))
  | .lss => some (.bool (decide (a < b)))
  | .leq => some (.bool (decide (a ≤ b)))
  | .gtr => some (.bool (decide (a > b)))
  | .geq => some (.bool (decide (a ≥ b)))
  | _ => none

def binStr (op : BinOp) (a b : ByteArray) : Option V :=
  match op with
  | .add => if a.size + b.size ≤ lim then some (.str (a ++ b)) else none
  | .eql => some (.bool (a.toList == b.toList))
  | .neq => some (.bool (!(a.toList == b.toList)))
  | .lss => some (.bool (Op.bytesLess a.toList b.toList))
  | .leq => some (.bool (Op.bytesLess a.toList b.toList || a.toList == b.toList))
  | .gtr => some (.bool (!(Op.bytesLess a.toList b.toList || a.toList == b.toList)))
  | .geq => some (.bool (!(Op.bytesLess a.toList b.toList)))
  | _ => none

/-- Is a value of a kind nil, as far as can be told? -/
def isNil : NK → V → Option Bool
  | .ptr, .sc (.pointer none) | .func, .sc .nilFunc | .iface, .sc .nilIface | .map, .sc (.map none) | .slice, .sc (.slice none 0 0) => some true
  | .ptr, .ptr .. | .ptr, .rptr .. | .ptr, .eptr .. | .func, .fn .. | .iface, .ifc .. | .map, .mp .. | .slice, .hsl .. => some false
  | .slice, .slc _ _ (_ :: _) => some false
  | _, _ => none

def bin (op : BinOp) : V → V → Option V
  | .sc (.int k a), .sc (.int j b) =>
    match op with
    | .shl => if b < 0 then none else some (.sc (.int k (k.wrap (a * 2 ^ (min b.toNat k.bits)))))
    | .shr => if b < 0 then none else some (.sc (.int k (a.fdiv (2 ^ (min b.toNat k.bits)))))
    | _ => if k = j then binInt op k a b else none
  | .sc (.string a), .sc (.string b) => binStr op a b
  | _, _ => none

/-- '==' of two cells that are numbers, bools or strings. -/
def eqCell : LK → V → V → Option Bool
  | .i, .sc (.int k a), .sc (.int j b) => if k = j then some (a == b) else none
  | .b, .sc (.bool a), .sc (.bool b) => some (a == b)
  | .s, .sc (.string a), .sc (.string b) => some (a == b)
  | _, _, _ => none

def eqLeaves (xs ys : List V) : List (Nat × LK) → Option Bool
  | [] => some true
  | o :: os => match xs[o.1]?, ys[o.1]? with
    | some x, some y => (eqCell o.2 x y).bind fun t => (eqLeaves xs ys os).map fun u => t && u
    | _, _ => none

def unary (op : UnOp) : V → Option V
  | .sc (.int k n) => match op with
    | .neg => some (.sc (.int k (k.wrap (0 - n))))
    | .xor => some (.sc (.int k (k.wrap (BitVec.ofInt k.bits (if k.signed then -1 else k.max) ^^^ BitVec.ofInt k.bits n).toNat)))
    | _ => none
  | .sc (.bool b) => match op with
    | .not => some (.bool (!b))
    | _ => none
  | _ => none

/-- The bytes that one-cell elements are. -/
def bytesIn : List (List V) → Option (List UInt8)
  | [] => some []
  | [.sc (.int .u8 n)] :: r => (bytesIn r).map (UInt8.ofNat n.toNat :: ·)
  | _ => none

def bytesOut (s : ByteArray) : List (List V) := s.data.toList.map fun c => [.sc (.int .u8 c.toNat)]

/-- The row of a slice over a row, where it is still the row's last. -/
def rowAt (h : Heap) (b e : Nat) : Option (Nat × List (List V)) :=
  match h[b]? with
  | some (.row _ sz e' rs) => if e' = e then some (sz, rs) else none
  | _ => none

/-- The elements of a slice, as they stand ('sz': how many cells one has). -/
def elems (sz : Nat) (h : Heap) : V → Option (List (List V))
  | .slc _ z rs => if rs.isEmpty || z == sz then some rs else none
  | .hsl b e off len => match rowAt h b e with
    | some (z, rs) => if z = sz ∧ off + len ≤ rs.length then some ((rs.drop off).take len) else none
    | none => none
  | .sc (.slice none 0 0) => some []
  | _ => none

def slcLen : V → Option Nat
  | .slc _ _ rs => some rs.length
  | .hsl _ _ _ len => some len
  | .sc (.slice none 0 0) => some 0
  | _ => none

/-- A row of a value: its elements of one cell are scalars. -/
def cutCells (n : Option Nat) (cs : List V) (off : Nat) : Option V :=
  match n with
  | none => cs[off]?
  | some k => if off + k ≤ cs.length then some (.agg ((cs.drop off).take k)) else none

/-- cells from 'off' on, replaced. -/
def putCells (cs : List V) (off : Nat) (new : List V) : List V := cs.take off ++ new ++ cs.drop (off + new.length)

/-- Cells, in pieces of one size. -/
def chunk (sz : Nat) (l : List V) : List (List V) := (List.range (l.length / sz)).map fun i => (l.drop (i * sz)).take sz

/-- Values without a way into blocks that may be written. -/
def ground : V → Bool
  | .sc _ | .slc .. | .eptr .. | .opq => true
  | _ => false

mutual
/-- Do all ways into blocks lead to blocks of a number below n? -/
def refsLt (n : Nat) : V → Bool
  | .ptr b _ | .hsl b _ _ _ | .rptr b _ _ _ | .mp b => decide (b < n)
  | .fn _ a c => refsLts n a && refsLts n c
  | .agg cs => refsLts n cs
  | .tup vs => refsLts n vs
  | .ifc _ v => refsLt n v
  | .undef | .sc _ | .slc .. | .eptr .. | .opq => true
def refsLts (n : Nat) : List V → Bool
  | [] => true
  | v :: r => refsLt n v && refsLts n r
end

/-- May such a value be stored into the block b, where the running function's own blocks begin at 'base'? -/
def mayStore (base b : Nat) (cs : List V) : Bool := decide (base ≤ b) || refsLts (b + 1) cs

def oneCell : V → Bool
  | .agg _ | .tup _ | .undef => false
  | _ => true

def fillParts (zs : List V) : List (Nat × Nat × V) → Option (List V)
  | [] => some zs
  | (off, sz, v) :: r =>
    if v.cells.length = sz ∧ v.cells.all oneCell ∧ off + sz ≤ zs.length then fillParts (putCells zs off v.cells) r else none

def fillRows (sz : Nat) (rows : List (List V)) : List (Nat × V) → Option (List (List V))
  | [] => some rows
  | (i, v) :: r => if v.cells.length = sz ∧ v.cells.all oneCell ∧ i < rows.length then fillRows sz (rows.set i v.cells) r else none

def getsO (en : Env) : List Opd → List V
  | [] => []
  | x :: r => x.get en :: getsO en r

def getParts (en : Env) : List (Nat × Nat × Opd) → List (Nat × Nat × V)
  | [] => []
  | (a, b, x) :: r => (a, b, x.get en) :: getParts en r

def getParts2 (en : Env) : List (Nat × Opd) → List (Nat × V)
  | [] => []
  | (a, x) :: r => (a, x.get en) :: getParts2 en r

def asNat? : V → Option Nat
  | .sc (.int _ n) => if 0 ≤ n then some n.toNat else none
  | _ => none

/-- A bound of a slice expression: what stands there, else a default. -/
def boundO (en : Env) (d : Nat) : Option Opd → Option Nat
  | none => some d
  | some x => asNat? (x.get en)

/-- Is the capacity of a piece its length? -/
def exTo (ex : Cp) (e n : Nat) : Option Nat → Cp
  | some m => if m == e then .full else .any
  | none => if ex.isFull && e == n then .full else .any

def sliceV (h : Heap) (sz : Nat) (x : V) (lo : Nat) (hi mx : Option Nat) : Option (V × Heap) :=
  match x with
  | .slc ex z rs =>
    if (rs.isEmpty || z == sz) = true ∧ lo ≤ hi.getD rs.length ∧ hi.getD rs.length ≤ rs.length ∧ mx.getD (hi.getD rs.length) ≤ rs.length ∧ hi.getD rs.length ≤ mx.getD (hi.getD rs.length) then
      some (.slc (exTo ex (hi.getD rs.length) rs.length mx) z ((rs.drop lo).take (hi.getD rs.length - lo)), h) else none
  | .hsl b ep off len =>
    if lo ≤ hi.getD len ∧ hi.getD len ≤ len then
      match h[b]? with
      | some (.row t z e' rs) =>
        if z = sz ∧ e' = ep then
          match mx with
          | none => some (.hsl b ep (off + lo) (hi.getD len - lo), h)
          | some m =>
            if m = hi.getD len ∧ lo = 0 ∧ off = 0 ∧ rs.length = len then some (.hsl b (ep + 1) 0 (hi.getD len), h.set b (.row t sz (ep + 1) (rs.take (hi.getD len)))) else none
        else none
      | _ => none
    else none
  | .sc (.slice none n c) => if n = 0 ∧ c = 0 ∧ lo = 0 ∧ hi.getD 0 = 0 ∧ mx.getD 0 = 0 then some (x, h) else none
  | _ => none

def minmax (mx : Bool) : V → List V → Option V
  | x, [] => some x
  | .sc (.int k a), .sc (.int j b) :: r =>
    if k = j then minmax mx (.sc (.int k (if mx then (if a < b then b else a) else (if b < a then b else a)))) r else none
  | _, _ => none

/-- Elements that are written: each of so many cells, each cell one. -/
def newOk (sz : Nat) (new : List (List V)) : Bool := new.all fun r => r.length == sz && r.all oneCell

def appendV (base : Nat) (h : Heap) (t : TypeId) (sz : Nat) (s : V) (new : List (List V)) : Option (V × Heap) :=
  match new with
  | [] => (elems sz h s).map fun _ => (s, h)
  | _ :: _ =>
    match s with
    | .sc (.slice none 0 0) => if new.length ≤ lim ∧ newOk sz new then some (.hsl h.length 0 0 new.length, h ++ [.row t sz 0 new]) else none
    | .slc ex z rs => if ex.isFull && (rs.isEmpty || z == sz) && decide (rs.length + new.length ≤ lim) && newOk sz new then some (.hsl h.length 0 0 (rs.length + new.length), h ++ [.row t sz 0 (rs ++ new)]) else none
    | .hsl b e 0 len =>
      match h[b]? with
      | some (.row u z e' rs) => if u = t ∧ z = sz ∧ e' = e ∧ len ≤ rs.length ∧ len + new.length ≤ lim ∧ newOk sz new ∧ new.all (mayStore base b) then some (.hsl b (e + 1) 0 (len + new.length), h.set b (.row t sz (e + 1) (rs.take len ++ new))) else none
      | _ => none
    | _ => none

/-- What is appended or copied: a slice's elements, or a string's bytes. -/
def srcRows (sz : Nat) (h : Heap) : V → Option (List (List V))
  | .sc (.string s) => if sz = 1 then some (bytesOut s) else none
  | x => elems sz h x

def loadV (h : Heap) (n : Option Nat) : V → Option V
  | .ptr b off => match h[b]? with
    | some (.box _ cs) => cutCells n cs off
    | _ => none
  | .rptr b e i off => match rowAt h b e with
    | some (_, rs) => (rs[i]?).bind fun cs => if off + n.getD 1 ≤ cs.length then cutCells n cs off else if i = 0 then cutCells n rs.flatten off else none
    | none => none
  | .eptr cs off => cutCells n cs off
  | _ => none

def storeV (base : Nat) (h : Heap) (n : Nat) (a x : V) : Option Heap :=
  if x.cells.length = n ∧ x.cells.all oneCell then
    match a with
    | .ptr b off => match h[b]? with
      | some (.box t cs) => if off + n ≤ cs.length ∧ mayStore base b x.cells then some (h.set b (.box t (putCells cs off x.cells))) else none
      | _ => none
    | .rptr b e i off => match h[b]? with
      | some (.row t sz e' rs) =>
        if e' = e then
          match rs[i]? with
          | some cs =>
            if off + n ≤ cs.length ∧ mayStore base b x.cells then some (h.set b (.row t sz e' (rs.set i (putCells cs off x.cells))))
            else if i = 0 ∧ off + n ≤ rs.flatten.length ∧ mayStore base b x.cells then some (h.set b (.row t sz e' (chunk sz (putCells rs.flatten off x.cells)))) else none
          | none => none
        else none
      | _ => none
    | _ => none
  else none

/-- A pointer, so many cells further. -/
def moveV (n : Nat) : V → Option V
  | .ptr b o => some (.ptr b (o + n))
  | .rptr b e i o => some (.rptr b e i (o + n))
  | .eptr cs o => some (.eptr cs (o + n))
  | _ => none

/-- The address of a slice's element. -/
def indexV (h : Heap) (s k : Nat) : V → Option V
  | .slc _ z rs => if z = s then (rs[k]?).map fun cs => V.eptr cs 0 else none
  | .hsl b e off len => match rowAt h b e with
    | some (z, rs) => if z = s ∧ k < len ∧ off + len ≤ rs.length then some (.rptr b e (off + k) 0) else none
    | none => none
  | _ => none

/-- The cells of a box. -/
def boxAt (h : Heap) (b : Nat) : Option (TypeId × List V) :=
  match h[b]? with
  | some (.box t cs) => some (t, cs)
  | _ => none

/-- A pointer into a box, seen as an unsafe one. -/
def uncastV (h : Heap) : V → Option V
  | .sc (.pointer none) => some (.sc (.pointer none))
  | .ptr b off => (boxAt h b).bind fun p => if off < p.2.length then some (.ptr b off) else none
  | _ => none

/-- .. and back: a pointer to a whole box of that type. -/
def castV (h : Heap) (u : TypeId) (s : Nat) : V → Option V
  | .sc (.pointer none) => some (.sc (.pointer none))
  | .ptr b 0 => (boxAt h b).bind fun p => if p.1 = u ∧ p.2.length = s then some (.ptr b 0) else none
  | _ => none

/-- Are two pointers one? -/
def samePtr (h : Heap) : V → V → Option Bool
  | .sc (.pointer none), .sc (.pointer none) => some true
  | .sc (.pointer none), .ptr .. | .ptr .., .sc (.pointer none) => some false
  | .ptr b o, .ptr c p => (boxAt h b).bind fun _ => (boxAt h c).map fun _ => b == c && o == p
  | _, _ => none

/-- The block that a value leads into. -/
def blockOf : V → Option Nat
  | .ptr b _ | .rptr b _ _ _ | .hsl b _ _ _ | .mp b => some b
  | _ => none

/-- Are two interface values one? Of two of one type: a type whose values are numbers or texts. -/
def sameIfc (tab : List (TypeId × LK)) : V → V → Option Bool
  | .sc .nilIface, .ifc _ _ | .ifc _ _, .sc .nilIface => some false
  | .ifc t a, .ifc u b => if t = u then (tab.lookup t).bind fun k => eqCell k a b else some false
  | _, _ => none

/-- Keys of maps: texts, numbers, bools. -/
def keyIs : LK → V → Option Value
  | .s, .sc (.string a) => some (.string a)
  | .i, .sc (.int .i64 a) => some (.int .i64 a)
  | .b, .sc (.bool a) => some (.bool a)
  | _, _ => none
def keyEq : Value → Value → Option Bool
  | .string a, .string b => some (a == b)
  | .int k a, .int j b => if k = j then some (a == b) else none
  | .bool a, .bool b => some (a == b)
  | _, _ => none
/-- Where a key stands, and what with it. -/
def findM (k : Value) : List (Value × V) → Nat → Option (Option (Nat × V))
  | [], _ => some none
  | e :: es, i => match keyEq k e.1 with
    | some true => some (some (i, e.2))
    | some false => findM k es (i + 1)
    | none => none

def lookupV (h : Heap) (kd : LK) (z : V) (m k : V) : Option (V × Bool) :=
  (keyIs kd k).bind fun key => match m with
    | .sc (.map none) => some (z, false)
    | .mp b => match h[b]? with
      | some (.mmap es) => (findM key es 0).map fun r => match r with
        | some (_, v) => (v, true)
        | none => (z, false)
      | _ => none
    | _ => none

def updateV (base : Nat) (h : Heap) (kd : LK) (m k x : V) : Option Heap :=
  (keyIs kd k).bind fun key => match m with
    | .mp b => match h[b]? with
      | some (.mmap es) =>
        if x.cells.all oneCell ∧ mayStore base b [x] then
          (findM key es 0).map fun r => match r with
            | some (i, _) => h.set b (.mmap (es.set i (key, x)))
            | none => h.set b (.mmap (es ++ [(key, x)]))
        else none
      | _ => none
    | _ => none

def lenMV (h : Heap) (m : V) : Option Nat :=
  match m with
  | .sc (.map none) => some 0
  | .mp b => match h[b]? with
    | some (.mmap es) => some es.length
    | _ => none
  | _ => none

def sliceDataV (h : Heap) : V → Option V
  | .sc (.slice none 0 0) => some (.sc (.pointer none))
  | .hsl b e off len => match rowAt h b e with
    | some _ => if 0 < len then some (.rptr b e off 0) else none
    | none => none
  | _ => none

/-- The string over the first bytes of a row, which is not touched any more. -/
def strDataV (h : Heap) (u : TypeId) (k : Nat) : V → Option (V × Heap)
  | .sc (.pointer none) => if k = 0 then some (.str .empty, h) else none
  | .rptr b e 0 0 => match h[b]? with
    | some (.row t sz e' rs) => if t = u ∧ sz = 1 ∧ e' = e ∧ 0 < k ∧ k ≤ rs.length ∧ k ≤ lim then (bytesIn (rs.take k)).map fun l => (.str ⟨l.toArray⟩, h.set b .dead) else none
    | _ => none
  | _ => none

/-- 'copy': how many elements go over, and memory behind it. -/
def copyV (base : Nat) (h : Heap) (sz : Nat) (d : V) (new : List (List V)) : Option (Nat × Heap) :=
  match slcLen d with
  | none => none
  | some m =>
    if min new.length m = 0 then some (0, h) else
    match d with
    | .hsl b e off len => match h[b]? with
      | some (.row t z e' rs) =>
        if z = sz ∧ e' = e ∧ off + len ≤ rs.length ∧ newOk sz (new.take (min new.length len)) ∧ (new.take (min new.length len)).all (mayStore base b) then
          some (min new.length len, h.set b (.row t z e' (rs.take off ++ new.take (min new.length len) ++ rs.drop (off + (new.take (min new.length len)).length)))) else none
      | _ => none
    | _ => none

def capV : V → Option Nat
  | .sc (.slice none 0 0) => some 0
  | .slc ex _ rs => if ex.isFull then some rs.length else none
  | _ => none

/-- One operation that is no call: its value, and memory behind it. -/
def step (base : Nat) (en : Env) (h : Heap) : AOp → Option (V × Heap)
  | .mv x => some (x.get en, h)
  | .pick c a b => match c.get en with
    | .sc (.bool t) => some (if t then a.get en else b.get en, h)
    | _ => none
  | .alloc t zs => some (.ptr h.length 0, h ++ [.box t zs])
  | .box t x => if (x.get en).cells.all oneCell then some (.ptr h.length 0, h ++ [.box t (x.get en).cells]) else none
  | .build zs ps => (fillParts zs (getParts en ps)).map fun cs => (.agg cs, h)
  | .bslice w t sz zs n ps => (fillRows sz (List.replicate n zs) (getParts2 en ps)).bind fun rs =>
      if w then (if rs.all (fun r => r.all oneCell) then some (.hsl h.length 0 0 rs.length, h ++ [.row t sz 0 rs]) else none)
      else if rs.all (fun r => r.all ground) then some (.slc .lit sz rs, h)
      else if rs.all (fun r => r.all oneCell) then some (.hsl h.length 0 0 rs.length, h ++ [.row t sz 0 rs]) else none
  | .load n a => (loadV h n (a.get en)).map fun v => (v, h)
  | .store n a x => (storeV base h n (a.get en) (x.get en)).map fun h' => (.undef, h')
  | .nilCheck x => match x.get en with
    | .ptr b o => some (.ptr b o, h)
    | .rptr b e i o => some (.rptr b e i o, h)
    | .eptr cs o => some (.eptr cs o, h)
    | .fn (.func f) a c => some (.fn (.func f) a c, h)
    | _ => none
  | .bin op x y => (bin op (x.get en) (y.get en)).map fun v => (v, h)
  | .eqBool neg x y => match x.get en, y.get en with
    | .sc (.bool a), .sc (.bool b) => some (.bool (if neg then !(a == b) else (a == b)), h)
    | _, _ => none
  | .isNil neg k x => (isNil k (x.get en)).map fun b => (.bool (if neg then !b else b), h)
  | .eqAgg neg ls x y => match x.get en, y.get en with
    | .agg xs, .agg ys => (eqLeaves xs ys ls).map fun t => (.bool (if neg then !t else t), h)
    | _, _ => none
  | .un op x => (unary op (x.get en)).map fun v => (v, h)
  | .conv k x => match x.get en with
    | .sc (.int _ n) => some (.sc (.int k (k.wrap n)), h)
    | _ => none
  | .strOf x => (elems 1 h (x.get en)).bind fun rs => (bytesIn rs).map fun l => (.str ⟨l.toArray⟩, h)
  | .bytesOf x => match x.get en with
    | .sc (.string s) => if s.size ≤ lim then some (.slc .any 1 (bytesOut s), h) else none
    | _ => none
  | .makeIface t x => if oneCell (x.get en) then some (.ifc t (x.get en), h) else none
  | .makeFunc f a c => some (.fn f (getsO en a) (getsO en c), h)
  | .makeSlice t sz zs l c => match asNat? (l.get en), asNat? (c.get en) with
    | some n, some m => if n ≤ m ∧ m ≤ lim then some (.hsl h.length 0 0 n, h ++ [.row t sz 0 (List.replicate n zs)]) else none
    | _, _ => none
  | .sliceStr x lo hi => match x.get en with
    | .sc (.string s) => (boundO en 0 lo).bind fun l => (boundO en s.size hi).bind fun e =>
        if l ≤ e ∧ e ≤ s.size then some (.str (s.extract l e), h) else none
    | _ => none
  | .slice sz x lo hi mx => (boundO en 0 lo).bind fun l => match hi, mx with
      | none, none => sliceV h sz (x.get en) l none none
      | some e, none => (asNat? (e.get en)).bind fun e => sliceV h sz (x.get en) l (some e) none
      | some e, some m => (asNat? (e.get en)).bind fun e => (asNat? (m.get en)).bind fun m => sliceV h sz (x.get en) l (some e) (some m)
      | none, some _ => none
  | .sliceArr n sz x lo hi => match x.get en, boundO en 0 lo, boundO en n hi with
    | .eptr cs 0, some l, some e =>
      if l = 0 ∧ e = n ∧ n * sz = cs.length ∧ 0 < sz ∧ 0 < n then some (.slc .full sz ((List.range n).map fun i => (cs.drop (i * sz)).take sz), h) else none
    | .rptr b ep 0 0, some l, some e => match rowAt h b ep with
      | some (z, rs) => if z = sz ∧ rs.length = n ∧ l ≤ e ∧ e ≤ n then some (.hsl b ep l (e - l), h) else none
      | none => none
    | _, _, _ => none
  | .fieldAddr off x => (moveV off (x.get en)).map fun v => (v, h)
  | .field n off x => match x.get en with
    | .agg cs => (cutCells n cs off).map fun v => (v, h)
    | _ => none
  | .indexS sz x i => (asNat? (i.get en)).bind fun k => (indexV h sz k (x.get en)).map fun v => (v, h)
  | .indexA n sz x i => (asNat? (i.get en)).bind fun k => if k < n then (moveV (k * sz) (x.get en)).map fun v => (v, h) else none
  | .idxArr m n sz x i => (asNat? (i.get en)).bind fun k => if k < n then match x.get en with
      | .agg cs => (cutCells m cs (k * sz)).map fun v => (v, h)
      | _ => none
    else none
  | .idxStr x i => (asNat? (i.get en)).bind fun k => match x.get en with
    | .sc (.string s) => (s[k]?).map fun c => (.sc (.int .u8 c.toNat), h)
    | _ => none
  | .extract x i => match x.get en with
    | .tup vs => (vs[i]?).map fun v => (v, h)
    | _ => none
  | .lenStr x => match x.get en with
    | .sc (.string s) => some (.int s.size, h)
    | _ => none
  | .len x => (slcLen (x.get en)).map fun (n : Nat) => (.int (n : Int), h)
  | .lenC n => some (.int n, h)
  | .mnmx mx xs => match getsO en xs with
    | x :: r => (minmax mx x r).map fun v => (v, h)
    | [] => none
  | .append t sz s x => (srcRows sz h (x.get en)).bind fun new => appendV base h t sz (s.get en) new
  | .markB x => match x.get en with
    | .slc .lit 1 (r :: rs) => some (.slc .lit 1 (r :: rs), h)
    | _ => none
  | .idStr x => match x.get en with
    | .sc (.string s) => some (.str s, h)
    | _ => none
  | .uncast x => (uncastV h (x.get en)).map fun v => (v, h)
  | .cast u s x => (castV h u s (x.get en)).map fun v => (v, h)
  | .eqPtr neg x y => (samePtr h (x.get en) (y.get en)).map fun b => (.bool (if neg then !b else b), h)
  | .sliceData x => (sliceDataV h (x.get en)).map fun v => (v, h)
  | .strData u x n => match n.get en with
    | .sc (.int .i64 k) => if 0 ≤ k then strDataV h u k.toNat (x.get en) else none
    | _ => none
  | .cap x => (capV (x.get en)).map fun (n : Nat) => (.int (n : Int), h)
  | .loadF n a => match a.get en with
    | .eptr cs off => (cutCells n cs off).map fun v => (v, h)
    | _ => none
  | .indexF sz x i => (asNat? (i.get en)).bind fun k => match x.get en with
    | .slc _ z rs => if z = sz then (rs[k]?).map fun cs => (.eptr cs 0, h) else none
    | _ => none
  | .allocA t sz zs => if 0 < sz ∧ zs.length % sz = 0 ∧ 0 < zs.length then some (.rptr h.length 0 0 0, h ++ [.row t sz 0 (chunk sz zs)]) else none
  | .boxA t sz x => if 0 < sz ∧ (x.get en).cells.length % sz = 0 ∧ 0 < (x.get en).cells.length ∧ (x.get en).cells.all oneCell then some (.rptr h.length 0 0 0, h ++ [.row t sz 0 (chunk sz (x.get en).cells)]) else none
  | .sliceArrF n sz x lo hi => match x.get en, boundO en 0 lo, boundO en n hi with
    | .eptr cs 0, some l, some e =>
      if l = 0 ∧ e = n ∧ n * sz = cs.length ∧ 0 < sz ∧ 0 < n then some (.slc .full sz ((List.range n).map fun i => (cs.drop (i * sz)).take sz), h) else none
    | _, _, _ => none
  | .copy sz d x => (srcRows sz h (x.get en)).bind fun new => (copyV base h sz (d.get en) new).map fun p => (.int (p.1 : Int), p.2)
  | .boxF _ x => if (x.get en).cells.all ground then some (.eptr (x.get en).cells 0, h) else none
  | .makeMap => some (.mp h.length, h ++ [.mmap []])
  | .lookup kd z ok m k => (lookupV h kd z (m.get en) (k.get en)).map fun p => (if ok then .tup [p.1, .bool p.2] else p.1, h)
  | .mapUpdate kd m k x => (updateV base h kd (m.get en) (k.get en) (x.get en)).map fun h' => (.undef, h')
  | .lenM m => (lenMV h (m.get en)).map fun (n : Nat) => (.int (n : Int), h)
  | .eqIfc neg tab x y => (sameIfc tab (x.get en) (y.get en)).map fun b => (.bool (if neg then !b else b), h)
  | .call _ _ => none
  | .fail => none

/-! ### Running -/

inductive Ex where
  | normal
  | exit (id : Nat)
  | ret
  deriving Inhabited, DecidableEq

/-- What is called, and with what. -/
def target (v : V) (args : List V) : Option (FuncId × List V) :=
  match v with
  | .fn (.func f) a c => some (f, a ++ args ++ c)
  | _ => none

abbrev CallF := Nat → FuncId → List V → Heap → Option (V × Heap)

def oO : Option Opd → List Opd
  | none => []
  | some x => [x]

def AOp.opds : AOp → List Opd
  | .mv x | .box _ x | .load _ x | .nilCheck x | .isNil _ _ x | .un _ x | .conv _ x | .strOf x | .bytesOf x | .makeIface _ x | .fieldAddr _ x | .field _ _ x | .extract x _ | .lenStr x | .len x | .markB x | .idStr x | .loadF _ x | .uncast x | .cast _ _ x | .sliceData x | .cap x | .boxA _ _ x | .boxF _ x | .lenM x => [x]
  | .pick c a b => [c, a, b]
  | .alloc _ _ | .allocA .. | .lenC _ | .makeMap | .fail => []
  | .build _ ps => ps.map (·.2.2)
  | .bslice _ _ _ _ _ ps => ps.map (·.2)
  | .store _ a x | .eqPtr _ a x | .strData _ a x | .bin _ a x | .eqBool _ a x | .eqAgg _ _ a x | .makeSlice _ _ _ a x | .indexS _ a x | .indexF _ a x | .indexA _ _ a x | .idxArr _ _ _ a x | .idxStr a x | .append _ _ a x | .copy _ a x | .lookup _ _ _ a x | .eqIfc _ _ a x => [a, x]
  | .mapUpdate _ m k x => [m, k, x]
  | .makeFunc _ a c => a ++ c
  | .sliceStr x lo hi | .sliceArr _ _ x lo hi | .sliceArrF _ _ x lo hi => x :: (oO lo ++ oO hi)
  | .slice _ x lo hi mx => x :: (oO lo ++ oO hi ++ oO mx)
  | .mnmx _ xs => xs
  | .call f xs => f :: xs

/-- Does an operation keep off the blocks that it is to keep off? -/
def offOk (en : Env) (o : AOper) : Bool :=
  o.off.all fun t => match blockOf (en t) with
    | some b => o.op.opds.all fun x => blockOf (x.get en) != some b
    | none => false

def evOp (call : CallF) (base : Nat) (en : Env) (h : Heap) (op : AOp) : Option (V × Heap) :=
  match op with
  | .call f args => match target (f.get en) (getsO en args) with
    | some (k, vs) => call base k vs h
    | none => none
  | op => step base en h op

def evOper (call : CallF) (base : Nat) (en : Env) (h : Heap) (o : AOper) : Option (V × Heap) := if offOk en o then evOp call base en h o.op else none

/-- Does a guard want its operation? A slot whose own operation was not wanted holds the empty tuple: what it guards is not wanted either. -/
def gOk (v : V) (want : Bool) : Option Bool :=
  match v with
  | .sc (.bool t) => some (t == want)
  | .tup [] => some false
  | _ => none

def evOps (call : CallF) (base : Nat) : List AOper → Env → Heap → Option (Env × Heap)
  | [], en, h => some (en, h)
  | o :: r, en, h =>
    match o.guard with
    | none => match evOper call base en h o with
      | some (v, h') => evOps call base r (en.put o.dst v) h'
      | none => none
    | some (g, want) => match gOk (en g) want with
      | some true => match evOper call base en h o with
          | some (v, h') => evOps call base r (en.put o.dst v) h'
          | none => none
      | some false => evOps call base r (en.put o.dst (.tup [])) h
      | none => none

def iter (f : Env → Heap → Option (Ex × Env × Heap)) : Nat → Env → Heap → Option (Ex × Env × Heap)
  | 0, _, _ => none
  | n + 1, en, h => match f en h with
    | some (.normal, en', h') => iter f n en' h'
    | r => r

def evC (call : CallF) (base n : Nat) : ACode → Env → Heap → Option (Ex × Env × Heap)
  | .skip, en, h => some (.normal, en, h)
  | .ret, en, h => some (.ret, en, h)
  | .exit id, en, h => some (.exit id, en, h)
  | .seq a b, en, h => match evC call base n a en h with
    | some (.normal, en', h') => evC call base n b en' h'
    | r => r
  | .fail, _, _ => none
  | .cond c a b, en, h => match c.get en with
    | .sc (.bool t) => if t then evC call base n a en h else evC call base n b en h
    | _ => none
  | .region ops, en, h => match evOps call base ops en h with
    | some (en', h') => some (.normal, en', h')
    | none => none
  | .block id c, en, h => match evC call base n c en h with
    | some (.exit i, en', h') => if i = id then some (.normal, en', h') else some (.exit i, en', h')
    | r => r
  | .loop c, en, h => iter (fun en h => evC call base n c en h) n en h

def evRes1 (en : Env) (h : Heap) : ARes → Option V
  | .tmp t => some (en t)
  | .cell t n => loadV h n (en t)

def evRess (en : Env) (h : Heap) : List ARes → Option (List V)
  | [] => some []
  | r :: rs => (evRes1 en h r).bind fun v => (evRess en h rs).map (v :: ·)

def oneOrTup : List V → V
  | [v] => v
  | vs => .tup vs

mutual
/-- What a call hands back, where its own rows are never written again, and its own boxes are gone. -/
def freezeV (h : Heap) (base : Nat) : Nat → V → Option V
  | 0, _ => none
  | k + 1, .hsl b e off len =>
    if b < base then some (.hsl b e off len) else
    match rowAt h b e with
    | some (sz, rs) =>
      if off + len ≤ rs.length then
        if rs.all (fun r => r.all ground) then some (.slc .any sz ((rs.drop off).take len))
        else (freezeRows h base k rs).bind fun rs => if rs.all (fun r => r.all ground) then some (.slc .any sz ((rs.drop off).take len)) else none
      else none
    | none => none
  | k + 1, .agg cs => (freezeVs h base k cs).map .agg
  | k + 1, .tup cs => (freezeVs h base k cs).map .tup
  | _ + 1, .fn f a c => if refsLts base a && refsLts base c then some (.fn f a c) else none
  | _ + 1, .ifc t v => if refsLt base v then some (.ifc t v) else none
  | _ + 1, .ptr b o => if b < base then some (.ptr b o) else none
  | _ + 1, .rptr b e i o => if b < base then some (.rptr b e i o) else none
  | _ + 1, .mp b => if b < base then some (.mp b) else none
  | _ + 1, .sc v => some (.sc v)
  | _ + 1, .slc ex sz rs => some (.slc ex sz rs)
  | _ + 1, .eptr cs o => some (.eptr cs o)
  | _ + 1, .undef => some .undef
  | _ + 1, .opq => some .opq
def freezeVs (h : Heap) (base : Nat) : Nat → List V → Option (List V)
  | 0, _ => none
  | _ + 1, [] => some []
  | k + 1, v :: r => (freezeV h base k v).bind fun v => (freezeVs h base k r).map (v :: ·)
def freezeRows (h : Heap) (base : Nat) : Nat → List (List V) → Option (List (List V))
  | 0, _ => none
  | _ + 1, [] => some []
  | k + 1, v :: r => (freezeVs h base k v).bind fun v => (freezeRows h base k r).map (v :: ·)
end

/-- A call of a function whose body is known. -/
def evFunc (call : CallF) (n base : Nat) (F : AFunc) (args : List V) (h : Heap) : Option (V × Heap) :=
  if args.length = F.nparams then
    let b := if F.pure then h.length else base
    match evC call b n F.body (fun t => args.getD t .undef) h with
    | some (.exit _, _, _) => none
    | some (_, en, h') => (evRess en h' F.results).bind fun rs =>
        if F.pure then (freezeV h' b n (oneOrTup rs)).map fun v => (v, h'.take b)
        else some (oneOrTup rs, h')
    | none => none
  else none

/-- Calls: 'X' are functions that are known by a contract, 'F' those whose bodies are known. -/
def evCall (X : FuncId → Option (Nat → List V → Heap → Option (V × Heap))) (F : FuncId → Option AFunc) : Nat → CallF
  | 0, _, _, _, _ => none
  | n + 1, base, f, args, h =>
    match X f with
    | some g => g base args h
    | none => match F f with
      | some fn => evFunc (evCall X F n) n base fn args h
      | none => none

end Go.Am
end
section
/- Am: the model's code, with all that the types say resolved. -/
namespace Go.Am

/-- A value without an address, as an abstract one. -/
def scOf : Value → Option V
  | .bool b => some (.sc (.bool b))
  | .int k n => some (.sc (.int k n))
  | .string s => some (.sc (.string s))
  | .pointer none => some (.sc (.pointer none))
  | .slice none 0 0 => some (.sc (.slice none 0 0))
  | .map none => some (.sc (.map none))
  | .nilFunc => some (.sc .nilFunc)
  | .nilIface => some (.sc .nilIface)
  | _ => none

def scsOf : List Value → Option (List V)
  | [] => some []
  | v :: r => (scOf v).bind fun v => (scsOf r).map (v :: ·)

def valOf : Value → Option V
  | .agg cs => (scsOf cs.toList).map .agg
  | v => scOf v

section
variable (P : Program) (gl : Nat → Option (List V))

def opd : Operand → Option Opd
  | .tmp t => some (.tmp t)
  | .const v => (valOf v).map .val
  | .global g => (gl g).map fun cs => .val (.eptr cs 0)
  | .func f => some (.val (.fn (.func f) [] []))

def opds : List Operand → Option (List Opd)
  | [] => some []
  | x :: r => (opd gl x).bind fun x => (opds r).map (x :: ·)

def opdO : Option Operand → Option (Option Opd)
  | none => some none
  | some x => (opd gl x).map some

def sizeO (t : TypeId) : Option Nat := (P.info? t).map (·.size)
/-- The cells of a type's zero value. -/
def zeroO (t : TypeId) : Option (List V) := ((P.info? t).bind (·.zero)).bind fun z => scsOf z.cells.toList
def aggT (t : TypeId) : Option Bool := (P.underlying t).map fun d => match d with | .struct _ | .array _ _ => true | _ => false
/-- How a variable of a type is read: by its one cell, or as so many. -/
def shapeO (t : TypeId) : Option (Option Nat) := (aggT P t).bind fun a => (sizeO P t).bind fun n => if a then some (some n) else if n = 1 then some none else none

/-- The elements' size of a slice that may be grown. -/
def growElem (e : TypeId) : Option Nat := (P.info? e).bind fun i => i.zero.bind fun z => if 0 < i.size ∧ i.bytes ≤ 1024 ∧ z.cells.size = i.size then some i.size else none

def keyKind (k : TypeId) : Option LK := match P.underlying k with
  | some .string => some .s
  | some (.int .i64) => some .i
  | some .bool => some .b
  | _ => none
/-- The zero value of a type, whole. -/
def zeroV (t : TypeId) : Option V := ((P.info? t).bind (·.zero)).bind valOf

/-- A number of no variable: a function that is read under a list with it looks at no memory that may be written. -/
def lookNo : Nat := 1000000007
def rowNo : Nat := 2000000011
def glz (z : Bool) (ts rs : List Nat) (gl : Nat → Option (List V)) : Nat → Option (List V) := fun g => if (z && g == lookNo) || ts.any (fun t => g == lookNo + 1 + t) || rs.any (fun t => g == rowNo + t) then some [] else gl g

/-- The elements' size of an array that is laid as a row. -/
def arrElem (t : TypeId) : Option Nat := match P.underlying t with
  | some (.array n e) => if n = 0 then none else growElem P e
  | _ => none

def fieldsPlaces : List Field → Option (List (Nat × Nat))
  | [] => some []
  | f :: r => (sizeO P f.type).bind fun n => (fieldsPlaces r).map ((f.offset, n) :: ·)

def buildParts (pl : List (Nat × Nat)) : List (Nat × Operand) → Option (List (Nat × Nat × Opd))
  | [] => some []
  | (i, x) :: r => (pl[i]?).bind fun p => (opd gl x).bind fun y => (buildParts pl r).map ((p.1, p.2, y) :: ·)

def slcParts : List (Nat × Operand) → Option (List (Nat × Opd))
  | [] => some []
  | (i, x) :: r => (opd gl x).bind fun y => (slcParts r).map ((i, y) :: ·)

/-- The leaves that '==' of two structs compares: cells of numbers, bools and strings. -/
def leavesFs (f : TypeId → Option (List (Nat × LK))) : List Field → Option (List (Nat × LK))
  | [] => some []
  | x :: r => if x.name = "_" then leavesFs f r else
      (f x.type).bind fun l => (shapeO P x.type).bind fun n => if l.all (fun i => decide (i.1 < n.getD 1)) then (leavesFs f r).map (l.map (fun i => (x.offset + i.1, i.2)) ++ ·) else none

def leavesOf : Nat → TypeId → Option (List (Nat × LK))
  | 0, _ => none
  | d + 1, t => match P.underlying t with
    | some .bool => some [(0, .b)]
    | some (.int _) => some [(0, .i)]
    | some .string => some [(0, .s)]
    | some (.struct fs) => if P.stoodInHeld t then none else leavesFs P (leavesOf d) fs.toList
    | _ => none

def nkOf : TypeDesc → Option NK
  | .pointer _ => some .ptr
  | .func _ _ _ => some .func
  | .interface _ => some .iface
  | .map _ _ => some .map
  | .slice _ => some .slice
  | _ => none

def isNilK : NK → Operand → Bool
  | .ptr, .const (.pointer none) | .func, .const .nilFunc | .iface, .const .nilIface | .map, .const (.map none) | .slice, .const (.slice none 0 0) => true
  | _, _ => false

/-- Types of numbers that have a name: values of theirs may stand in interfaces that are compared. -/
def ifTab : List (TypeId × LK) := (List.range P.types.size).filterMap fun t => match P.info? t with
  | some i => if i.comparable then match i.desc with
      | .named _ _ => match P.underlying t with
        | some (.int _) => some (t, .i)
        | _ => none
      | _ => none
    else none
  | none => none

def compBin (op : BinOp) (t : TypeId) (x y : Operand) : Option AOp :=
  (P.underlying t).bind fun d => (opd gl x).bind fun a => (opd gl y).bind fun b =>
  match d with
  | .int _ | .string => some (.bin op a b)
  | .bool => match op with
    | .eql => some (.eqBool false a b)
    | .neq => some (.eqBool true a b)
    | _ => none
  | .pointer t => 
    if isNilK .ptr x || isNilK .ptr y then
      match op with
      | .eql => if isNilK .ptr y then some (.isNil false .ptr a) else if isNilK .ptr x then some (.isNil false .ptr b) else none
      | .neq => if isNilK .ptr y then some (.isNil true .ptr a) else if isNilK .ptr x then some (.isNil true .ptr b) else none
      | _ => none
    else (sizeO P t).bind fun s => if s = 0 then none else match op with
      | .eql => some (.eqPtr false a b)
      | .neq => some (.eqPtr true a b)
      | _ => none
  | d => (nkOf d).bind fun k =>
    match op with
    | .eql => if isNilK k y then some (.isNil false k a) else if isNilK k x then some (.isNil false k b) else if k = .iface then some (.eqIfc false (ifTab P) a b) else none
    | .neq => if isNilK k y then some (.isNil true k a) else if isNilK k x then some (.isNil true k b) else if k = .iface then some (.eqIfc true (ifTab P) a b) else none
    | _ => none

def compConv (src dst : TypeId) (x : Operand) : Option AOp :=
  (P.underlying src).bind fun s => (P.underlying dst).bind fun d => (opd gl x).bind fun a =>
  match s, d with
  | .int _, .int k => some (.conv k a)
  | .string, .string => some (.idStr a)
  | .slice e, .string => match P.underlying e with
    | some (.int .u8) => some (.strOf a)
    | _ => none
  | .string, .slice e => match P.underlying e with
    | some (.int .u8) => some (.bytesOf a)
    | _ => none
  | .slice _, .slice e => if src = dst then match P.underlying e with
      | some (.int .u8) => some (.markB a)
      | _ => none
    else none
  | .pointer t, .unsafePointer => (sizeO P t).bind fun s => if s = 0 then none else some (.uncast a)
  | .unsafePointer, .pointer u => (sizeO P u).bind fun s => if liesAt P P.depth u (s / P.cellsOf u) 0 u 1 then some (.cast u s a) else none
  | _, _ => none

def compBuiltin (b : Builtin) (ts : List TypeId) (xs : List Operand) : Option AOp :=
  match b, ts, xs with
  | .len, [t], [x] => (P.underlying t).bind fun d => match d with
    | .string => (opd gl x).map .lenStr
    | .slice _ => (opd gl x).map .len
    | .array n _ => some (.lenC n)
    | .map _ _ => (opd gl x).map .lenM
    | _ => none
  | .append, [t, u], [s, x] => (P.underlying t).bind fun d => match d with
    | .slice e => (growElem P e).bind fun sz => (P.underlying u).bind fun du => match du with
      | .slice _ | .string => (opd gl s).bind fun a => (opd gl x).map fun b => .append e sz a b
      | _ => none
    | _ => none
  | .cap, [t], [x] => (P.underlying t).bind fun d => match d with
    | .slice _ => (opd gl x).map .cap
    | _ => none
  | .copy, [t, u], [s, x] => (P.underlying t).bind fun d => match d with
    | .slice e => (growElem P e).bind fun sz => (P.underlying u).bind fun du => match du with
      | .slice _ | .string => (opd gl s).bind fun a => (opd gl x).map fun b => .copy sz a b
      | _ => none
    | _ => none
  | .unsafeSliceData, _, [x] => (opd gl x).map .sliceData
  | .unsafeString, [pt, _], [x, n] => (P.underlying pt).bind fun d => match d with
    | .pointer u => if P.cellsOf u = 1 then (opd gl x).bind fun x => (opd gl n).map fun n => .strData u x n else none
    | _ => none
  | .max, _, xs => (opds gl xs).map (.mnmx true)
  | .min, _, xs => (opds gl xs).map (.mnmx false)
  | _, _, _ => none

def compCall (c : Call) : Option AOp :=
  match c.callee with
  | .value f => (opd gl f).bind fun f => (opds gl c.args.toList).map (.call f)
  | .builtin b => compBuiltin P gl b c.argTypes.toList c.args.toList
  | .invoke _ _ => none

def compOp : Op → Option AOp
  | .move x | .assign x => (opd gl x).map .mv
  | .pick c a b => (opd gl c).bind fun c => (opd gl a).bind fun a => (opd gl b).map fun b => .pick c a b
  | .alloc t => (zeroO P t).map fun zs => match arrElem P t with
    | some sz => .allocA t sz zs
    | none => .alloc t zs
  | .box t x => (opd gl x).map fun x => if (gl lookNo).isSome || (gl (lookNo + 1 + t)).isSome then .boxF t x else match arrElem P t with
    | some sz => .boxA t sz x
    | none => .box t x
  | .build t ps => (P.underlying t).bind fun d => match d with
    | .struct fs => (zeroO P t).bind fun zs => (fieldsPlaces P fs.toList).bind fun pl => (buildParts gl pl ps.toList).map (.build zs)
    | .array n e => (zeroO P t).bind fun zs => (sizeO P e).bind fun s => (buildParts gl ((List.range n).map fun i => (i * s, s)) ps.toList).map (.build zs)
    | _ => none
  | .buildSlice t n ps => (P.underlying t).bind fun d => match d with
    | .slice e => (growElem P e).bind fun sz => (zeroO P e).bind fun zs => if n * sz ≤ 2 ^ 24 ∧ zs.length = sz then (slcParts gl ps.toList).map (.bslice (gl (rowNo + e)).isSome e sz zs n) else none
    | _ => none
  | .load t a => (shapeO P t).bind fun n => (opd gl a).map (.load n)
  | .store t a x => (sizeO P t).bind fun n => (opd gl a).bind fun a => (opd gl x).map fun x => .store n a x
  | .nilCheck x => (opd gl x).map .nilCheck
  | .binOp op t x y _ => match P.underlying t with
    | some (.struct _) => (leavesOf P 8 t).bind fun ls => (opd gl x).bind fun a => (opd gl y).bind fun b => match op with
      | .eql => some (.eqAgg false ls a b)
      | .neq => some (.eqAgg true ls a b)
      | _ => none
    | _ => compBin P gl op t x y
  | .unOp op _ x => (opd gl x).map (.un op)
  | .convert s d x => compConv P gl s d x
  | .makeInterface t x => (P.underlying t).bind fun d => match d with
    | .interface _ => none
    | _ => (opd gl x).map (.makeIface t)
  | .makeFunc f a c => (opds gl a.toList).bind fun a => (opds gl c.toList).map fun c => .makeFunc f a c
  | .makeSlice t l c => (P.underlying t).bind fun d => match d with
    | .slice e => (growElem P e).bind fun sz => (zeroO P e).bind fun zs => if zs.length = sz then (opd gl l).bind fun l => (opd gl c).map fun c => .makeSlice e sz zs l c else none
    | _ => none
  | .slice t x lo hi mx => (P.underlying t).bind fun d => (opd gl x).bind fun x => (opdO gl lo).bind fun lo => (opdO gl hi).bind fun hi => (opdO gl mx).bind fun mx =>
    match d with
    | .string => if mx.isNone then some (.sliceStr x lo hi) else none
    | .slice e => (growElem P e).map fun sz => .slice sz x lo hi mx
    | .array n e => if mx.isNone then (growElem P e).map fun sz => .sliceArr n sz x lo hi else none
    | _ => none
  | .fieldAddr t x i => (P.underlying t).bind fun d => match d with
    | .struct fs => (fs[i]?).bind fun f => (sizeO P f.type).bind fun s => if 0 < s then (opd gl x).map (.fieldAddr f.offset) else none
    | _ => none
  | .field t x i => (P.underlying t).bind fun d => match d with
    | .struct fs => (fs[i]?).bind fun f => (shapeO P f.type).bind fun n => (opd gl x).map (.field n f.offset)
    | _ => none
  | .indexAddr t x i => (P.underlying t).bind fun d => (opd gl x).bind fun x => (opd gl i).bind fun i => match d with
    | .slice e => (sizeO P e).map fun s => .indexS s x i
    | .array n e => (sizeO P e).map fun s => .indexA n s x i
    | _ => none
  | .index t x i => (P.underlying t).bind fun d => (opd gl x).bind fun x => (opd gl i).bind fun i => match d with
    | .array n e => (shapeO P e).bind fun m => (sizeO P e).map fun s => .idxArr m n s x i
    | .string => some (.idxStr x i)
    | _ => none
  | .extract x i => (opd gl x).map fun x => .extract x i
  | .makeMap _ none => some .makeMap
  | .lookup t m k ok => (P.underlying t).bind fun d => match d with
    | .map kt et => (keyKind P kt).bind fun kd => (zeroV P et).bind fun z => (opd gl m).bind fun m => (opd gl k).map fun k => .lookup kd z ok m k
    | _ => none
  | .mapUpdate t m k x | .insert t m k x => (P.underlying t).bind fun d => match d with
    | .map kt _ => (keyKind P kt).bind fun kd => (opd gl m).bind fun m => (opd gl k).bind fun k => (opd gl x).map fun x => .mapUpdate kd m k x
    | _ => none
  | .call c => compCall P gl c
  | _ => none

/-- What is not served comes to an operation that fails. -/
def compOpT (o : Op) : AOp := (compOp P gl o).getD .fail

def compOper (nt : Nat) (ops : List Oper) (o : Oper) : Option AOper :=
  let op := compOpT P gl o.op
  if o.dst.all (· < nt) then
    match o.guard with
    | none => some ⟨o.dst, op, none, []⟩
    | some (j, want) => ((ops[j]?).bind (·.dst)).map fun d => ⟨o.dst, op, some (d, want), []⟩
  else none

def compOps (nt : Nat) (all : List Oper) : List Oper → Option (List AOper)
  | [] => some []
  | o :: r => (compOper P gl nt all o).bind fun o => (compOps nt all r).map (o :: ·)

end

/-! Which regions give one answer whatever order Go takes. -/

def opdTmps : List Opd → List Nat
  | [] => []
  | .tmp t :: r => t :: opdTmps r
  | .val _ :: r => opdTmps r

/-- Operations whose value hangs on their operands alone, and which leave memory as it is. -/
def AOp.inert : AOp → Bool
  | .mv _ | .pick .. | .build .. | .nilCheck _ | .bin .. | .eqBool .. | .eqAgg .. | .isNil .. | .un .. | .conv .. | .bytesOf _ | .makeIface .. | .makeFunc .. | .sliceStr .. | .sliceArrF .. | .boxF .. | .eqIfc ..
  | .markB _ | .idStr _ | .loadF .. | .indexF .. | .fail | .fieldAddr .. | .field .. | .indexA .. | .idxArr .. | .idxStr .. | .extract .. | .lenStr _ | .len _ | .cap _ | .lenC _ | .mnmx .. => true
  | _ => false

/-- Operations that only read memory. -/
def AOp.reads : AOp → Bool
  | .load .. | .strOf _ | .indexS .. | .slice _ _ _ _ none | .sliceArr .. | .lookup .. | .lenM _ | .uncast _ | .cast .. | .eqPtr .. | .sliceData _ => true
  | op => op.inert

def AOper.slots (o : AOper) : List Nat := (match o.guard with | some (g, _) => [g] | none => []) ++ opdTmps o.op.opds ++ o.off

def memO (x : Option Nat) (l : List Nat) : Bool :=
  match x with
  | some d => l.contains d
  | none => false

/-- Operations that lay new blocks, and touch no old one. -/
def AOp.grows (quiet : FuncId → Nat) : AOp → Bool
  | .alloc .. | .box .. | .bslice .. | .makeSlice .. | .allocA .. | .boxA .. | .makeMap => true
  | .call (.val (.fn (.func k) [] [])) _ => quiet k != 0
  | _ => false

/-- .. and calls of functions that look at no memory. -/
def AOp.inertQ (quiet : FuncId → Nat) : AOp → Bool
  | .call (.val (.fn (.func k) [] [])) _ => quiet k == 2
  | op => op.inert

/-- A store that keeps off what is read. -/
def AOper.clear (x y : AOper) : Bool :=
  match y.op with
  | .store _ (.tmp t) _ => x.off.contains t
  | _ => false

/-- May the second of two operations go first? -/
def commB (quiet : FuncId → Nat) (x y : AOper) : Bool :=
  !memO x.dst y.slots && !memO y.dst x.slots && (match x.dst, y.dst with | some a, some b => a != b | _, _ => true) &&
    (x.op.inertQ quiet || y.op.inertQ quiet || (x.op.reads && (y.op.reads || y.op.grows quiet || x.clear y)))

/-- Does i wait for x, be it by way of others? -/
def depB (ops : List Oper) : Nat → Nat → Nat → Bool
  | 0, _, _ => false
  | k + 1, i, x => match ops[i]? with
    | some o => o.after.toList.any fun e => Region.binds .any e && (e.on == x || depB ops k e.on x)
    | none => false

/-- May the operations, taken in the order 'pi', be taken in each order that Go leaves open? -/
def okPairs (quiet : FuncId → Nat) (ops : List Oper) (l : List AOper) : List Nat → Bool
  | [] => true
  | x :: r => r.all (fun i => depB ops ops.length i x || (match l[x]?, l[i]? with | some a, some b => commB quiet a b | _, _ => false)) && okPairs quiet ops l r

def nodupB : List Nat → Bool
  | [] => true
  | x :: r => !r.contains x && nodupB r

def okDraw (quiet : FuncId → Nat) (ops : List Oper) (l : List AOper) (pi : List Nat) : Bool :=
  okPairs quiet ops l pi && pi.length == ops.length && nodupB pi && pi.all (fun i => decide (i < ops.length)) && (List.range ops.length).all (fun i => pi.contains i &&
    (match ops[i]? with | some o => o.after.toList.all fun e => !Region.binds .any e || decide (e.on < i) | none => true))

/-- Reading memory that is never written again, and no other. -/
def AOp.frz : AOp → AOp
  | .load n a => .loadF n a
  | .indexS sz x i => .indexF sz x i
  | .sliceArr n sz x lo hi => .sliceArrF n sz x lo hi
  | op => op

def AOper.frz (o : AOper) : AOper := { o with op := o.op.frz }

/-- Where the stores of a region go, as far as that is told from outside. -/
def targets (l : List AOper) : List Nat :=
  (l.flatMap fun o => match o.op with | .store _ (.tmp t) _ => [t] | _ => []).filter fun t => l.all fun o => o.dst != some t

/-- A read that keeps off the stores. -/
def AOper.keep (av : List Nat) (o : AOper) : AOper := if o.op.reads && !o.op.inert then { o with off := av } else o

/-- An order: what only reads goes first, where it may. -/
def readsFirst (ops : List Oper) (l : List AOper) : Nat → List Nat → List Nat
  | 0, done => done
  | k + 1, done =>
    let ready := (List.range ops.length).filter fun i => !done.contains i && (match ops[i]? with | some o => o.after.toList.all fun e => !Region.binds .any e || done.contains e.on | none => false)
    match ready.find? (fun i => match l[i]? with | some o => o.op.reads | none => false) with
    | some i => readsFirst ops l k (done ++ [i])
    | none => match ready with
      | i :: _ => readsFirst ops l k (done ++ [i])
      | [] => done

/-- The operations, taken in an order. -/
def takeOrder (l : List AOper) (pi : List Nat) : List AOper := pi.map fun i => l.getD i default

end Go.Am
end
section
/- Am: whole functions. -/
namespace Go.Am
section
variable (P : Program) (gl : Nat → Option (List V))

/-- A region: where Go leaves its order open, as far as that is seen to make no difference. -/
def regionOf (quiet : FuncId → Nat) (ops : List Oper) (draw : Bool) (l : List AOper) : ACode :=
  if !draw then .region l
  else if okDraw quiet ops l (List.range ops.length) then .region l
  else
    let pi := readsFirst ops l ops.length []
    if okDraw quiet ops l pi then .region (takeOrder l pi)
    else if okDraw quiet ops (l.map (AOper.keep (targets l))) pi then .region (takeOrder (l.map (AOper.keep (targets l))) pi)
    else if okDraw quiet ops (l.map AOper.frz) (List.range ops.length) then .region (l.map AOper.frz)
    else .fail

/-- .. of a function that looks at no memory but what is never written again. -/
def regionZ (quiet : FuncId → Nat) (ops : List Oper) (draw : Bool) (l : List AOper) : ACode :=
  if !draw then .region (l.map AOper.frz)
  else if okDraw quiet ops (l.map AOper.frz) (List.range ops.length) then .region (l.map AOper.frz)
  else .fail

def comp (quiet : FuncId → Nat) (frz : Bool) (nt : Nat) : Code → Option ACode
  | .skip => some .skip
  | .ret => some .ret
  | .exit id => some (.exit id)
  | .seq a b => (comp quiet frz nt a).bind fun a => (comp quiet frz nt b).map fun b => .seq a b
  | .cond c a b => (opd gl c).bind fun c => (comp quiet frz nt a).bind fun a => (comp quiet frz nt b).map fun b => .cond c a b
  | .block id c => (comp quiet frz nt c).map (.block id)
  | .loop c => (comp quiet frz nt c).map .loop
  | .region _ ops draw => (compOps P gl nt ops.toList ops.toList).bind fun l => some (if frz then regionZ quiet ops.toList draw l else regionOf quiet ops.toList draw l)
  | _ => some .fail

def compRes (nt : Nat) : List ResultVar → Option (List ARes)
  | [] => some []
  | .tmp t :: r => if t < nt then (compRes nt r).map (.tmp t :: ·) else none
  | .cell a t :: r => (shapeO P t).bind fun n => if a < nt then (compRes nt r).map (.cell a n :: ·) else none

def compFunc (quiet : FuncId → Nat) (pure frz : Bool) (bz br : List Nat) (f : Func) : Option AFunc :=
  f.body.bind fun b => (comp P gl quiet frz f.ntmps b).bind fun c => (compRes P f.ntmps f.results.toList).map fun rs =>
    { nparams := f.params.size + f.nfree, ntmps := f.ntmps, pure, frz, bz, br, results := rs, body := c }
end
end Go.Am
end
section
/- Am: operations that may change places. -/
namespace Go.Am

theorem gets_congr {en en' : Env} : ∀ {l : List Opd}, (∀ t ∈ opdTmps l, en t = en' t) → getsO en l = getsO en' l
  | [], _ => rfl
  | .tmp t :: r, h => by
    simp only [opdTmps, List.mem_cons, forall_eq_or_imp] at h
    simp only [getsO, Opd.get, h.1, gets_congr h.2]
  | .val _ :: r, h => by
    simp only [opdTmps] at h
    simp only [getsO, Opd.get, gets_congr h]

theorem opdTmps_append : ∀ (a b : List Opd), opdTmps (a ++ b) = opdTmps a ++ opdTmps b
  | [], b => rfl
  | .tmp t :: r, b => by simp [opdTmps, opdTmps_append r b]
  | .val _ :: r, b => by simp [opdTmps, opdTmps_append r b]

theorem mem_opdTmps {t : Nat} : ∀ {l : List Opd}, t ∈ opdTmps l ↔ Opd.tmp t ∈ l
  | [] => by simp [opdTmps]
  | .tmp u :: r => by simp [opdTmps, mem_opdTmps (l := r)]
  | .val _ :: r => by simp [opdTmps, mem_opdTmps (l := r)]

theorem get_congr {en en' : Env} {l : List Opd} (h : ∀ t ∈ opdTmps l, en t = en' t) {x : Opd} (hx : x ∈ l) : x.get en = x.get en' := by
  cases x with
  | val v => rfl
  | tmp t => exact h t (mem_opdTmps.2 hx)

theorem parts_congr {en en' : Env} : ∀ {l : List (Nat × Nat × Opd)}, (∀ x ∈ l.map (·.2.2), x.get en = x.get en') → getParts en l = getParts en' l
  | [], _ => rfl
  | (a, b, x) :: r, h => by
    simp only [List.map_cons, List.mem_cons, forall_eq_or_imp] at h
    simp only [getParts, h.1, parts_congr h.2]

theorem parts2_congr {en en' : Env} : ∀ {l : List (Nat × Opd)}, (∀ x ∈ l.map (·.2), x.get en = x.get en') → getParts2 en l = getParts2 en' l
  | [], _ => rfl
  | (a, x) :: r, h => by
    simp only [List.map_cons, List.mem_cons, forall_eq_or_imp] at h
    simp only [getParts2, h.1, parts2_congr h.2]

theorem bound_congr {en en' : Env} {d : Nat} {x : Option Opd} (h : ∀ y ∈ oO x, y.get en = y.get en') : boundO en d x = boundO en' d x := by
  cases x with
  | none => rfl
  | some x => simp only [boundO, h x (by simp [oO])]

/-- One operation hangs on its operands and memory alone. -/
theorem step_congr {base : Nat} {en en' : Env} {h : Heap} {op : AOp} (he : ∀ t ∈ opdTmps op.opds, en t = en' t) : step base en h op = step base en' h op := by
  have hg : ∀ x ∈ op.opds, x.get en = x.get en' := fun x hx => get_congr he hx
  have hl : ∀ l : List Opd, (∀ x ∈ l, x ∈ op.opds) → getsO en l = getsO en' l := fun l hsub => gets_congr fun t ht => he t (mem_opdTmps.2 (hsub _ (mem_opdTmps.1 ht)))
  cases op
  case build zs ps => simp only [step, parts_congr (by simpa [AOp.opds] using hg)]
  case bslice w t sz zs n ps => simp only [step, parts2_congr (by simpa [AOp.opds] using hg)]
  case makeFunc f a c => simp only [step, hl a (by simp [AOp.opds]; intro x hx; exact .inl hx), hl c (by simp [AOp.opds]; intro x hx; exact .inr hx)]
  case mnmx m xs => simp only [step, hl xs (by simp [AOp.opds])]
  case call f xs => simp only [step]
  case sliceStr x lo hi =>
    simp only [AOp.opds, List.mem_cons, List.mem_append] at hg
    simp only [step, hg x (.inl rfl), bound_congr (x := lo) (fun y hy => hg y (.inr (.inl hy)))]
    split
    · simp only [bound_congr (x := hi) (fun y hy => hg y (.inr (.inr hy)))]
    · rfl
  case sliceArr n sz x lo hi =>
    simp only [AOp.opds, List.mem_cons, List.mem_append] at hg
    simp only [step, hg x (.inl rfl), bound_congr (x := lo) (fun y hy => hg y (.inr (.inl hy))), bound_congr (x := hi) (fun y hy => hg y (.inr (.inr hy)))]
  case sliceArrF n sz x lo hi =>
    simp only [AOp.opds, List.mem_cons, List.mem_append] at hg
    simp only [step, hg x (.inl rfl), bound_congr (x := lo) (fun y hy => hg y (.inr (.inl hy))), bound_congr (x := hi) (fun y hy => hg y (.inr (.inr hy)))]
  case slice sz x lo hi mx =>
    simp only [AOp.opds, List.mem_cons, List.mem_append] at hg
    simp only [step, hg x (.inl rfl), bound_congr (x := lo) (fun y hy => hg y (.inr (.inl (.inl hy))))]
    cases hi <;> cases mx <;> simp [oO] at hg ⊢ <;> simp [hg]
  all_goals
    simp [AOp.opds] at hg
    simp only [step]
    try simp only [hg]

theorem inert_step {base : Nat} {en : Env} {h h' : Heap} {op : AOp} {v : V} (hi : op.inert = true) (hs : step base en h op = some (v, h')) :
    h' = h ∧ ∀ b2 h2, step b2 en h2 op = some (v, h2) := by
  have fin : ∀ {x : Option V}, x.map (fun v => (v, h)) = some (v, h') → h' = h ∧ ∀ h2 : Heap, x.map (fun v => (v, h2)) = some (v, h2) := by
    intro x hx
    simp only [Option.map_eq_some_iff, Prod.mk.injEq] at hx
    obtain ⟨a, rfl, rfl, rfl⟩ := hx
    exact ⟨rfl, fun _ => rfl⟩
  cases op <;> simp [AOp.inert] at hi <;> simp only [step] at hs ⊢
  all_goals try exact ⟨(fin hs).1, fun _ h2 => (fin hs).2 h2⟩
  all_goals try (simp only [Option.some.injEq, Prod.mk.injEq] at hs; obtain ⟨rfl, rfl⟩ := hs; exact ⟨rfl, fun _ _ => rfl⟩)
  all_goals try (exfalso; simp at hs; done)
  all_goals try (simp only [Option.bind_eq_some_iff] at hs; obtain ⟨a, ha, hs⟩ := hs; simp only [ha, Option.bind_some])
  all_goals try exact ⟨(fin hs).1, fun _ h2 => (fin hs).2 h2⟩
  all_goals try (split at hs <;> first | (exfalso; simp at hs; done) | (simp only [Option.some.injEq, Prod.mk.injEq] at hs; obtain ⟨rfl, rfl⟩ := hs; exact ⟨rfl, fun _ _ => rfl⟩) | exact ⟨(fin hs).1, fun _ h2 => (fin hs).2 h2⟩)
  all_goals try (simp only [Option.map_eq_some_iff, Prod.mk.injEq] at hs; obtain ⟨a, ha, rfl, rfl⟩ := hs; exact ⟨rfl, fun _ _ => by rw [ha]; rfl⟩)
  case eqAgg =>
    split at hs
    · simp only [Option.map_eq_some_iff, Prod.mk.injEq] at hs
      obtain ⟨a, ha, rfl, rfl⟩ := hs
      exact ⟨rfl, fun _ _ => by rw [ha]; rfl⟩
    · simp at hs
  case sliceStr =>
    split at hs
    · simp only [Option.bind_eq_some_iff] at hs
      obtain ⟨a, ha, b, hb, hs⟩ := hs
      simp only [ha, hb, Option.bind_some]
      split at hs
      · rename_i hc
        simp only [Option.some.injEq, Prod.mk.injEq] at hs; obtain ⟨rfl, rfl⟩ := hs; exact ⟨rfl, fun _ _ => by rw [if_pos hc]⟩
      · simp at hs
    · simp at hs
  case indexA =>
    split at hs
    · rename_i hc
      simp only [Option.map_eq_some_iff, Prod.mk.injEq] at hs; obtain ⟨a, ha, rfl, rfl⟩ := hs; exact ⟨rfl, fun _ _ => by rw [if_pos hc, ha]; rfl⟩
    · simp at hs
  all_goals
    split at hs
    all_goals try (exfalso; simp at hs; done)
    all_goals try exact ⟨(fin hs).1, fun _ h2 => (fin hs).2 h2⟩
    all_goals try (simp only [Option.map_eq_some_iff, Prod.mk.injEq] at hs; obtain ⟨a, ha, rfl, rfl⟩ := hs; exact ⟨rfl, fun _ _ => by rw [ha]; rfl⟩)
    all_goals try (simp only [Option.some.injEq, Prod.mk.injEq] at hs; obtain ⟨rfl, rfl⟩ := hs; exact ⟨rfl, fun _ _ => by simp_all⟩)
  all_goals
    split at hs
    all_goals try (exfalso; simp at hs; done)
    all_goals try exact ⟨(fin hs).1, fun _ h2 => (fin hs).2 h2⟩
    all_goals try (simp only [Option.map_eq_some_iff, Prod.mk.injEq] at hs; obtain ⟨a, ha, rfl, rfl⟩ := hs; exact ⟨rfl, fun _ _ => by simp_all⟩)
    all_goals try (simp only [Option.some.injEq, Prod.mk.injEq] at hs; obtain ⟨rfl, rfl⟩ := hs; exact ⟨rfl, fun _ _ => by simp_all⟩)

theorem reads_step {base : Nat} {en : Env} {h h' : Heap} {op : AOp} {v : V} (hi : op.reads = true) (hs : step base en h op = some (v, h')) : h' = h ∧ ∀ b2, step b2 en h op = some (v, h) := by
  by_cases hin : op.inert = true
  · exact ⟨(inert_step hin hs).1, fun b2 => (inert_step hin hs).2 b2 h⟩
  cases op <;> simp [AOp.reads, AOp.inert] at hi hin
  case load n a =>
    simp only [step] at hs ⊢
    simp only [Option.map_eq_some_iff, Prod.mk.injEq] at hs; obtain ⟨a, ha, rfl, rfl⟩ := hs; exact ⟨rfl, fun _ => by rw [ha]; rfl⟩
  case strOf x =>
    simp only [step] at hs ⊢
    simp only [Option.bind_eq_some_iff] at hs; obtain ⟨a, ha, hs⟩ := hs; simp only [ha, Option.bind_some]
    simp only [Option.map_eq_some_iff, Prod.mk.injEq] at hs; obtain ⟨a, ha, rfl, rfl⟩ := hs; exact ⟨rfl, fun _ => by rw [ha]; rfl⟩
  case indexS sz x i =>
    simp only [step] at hs ⊢
    simp only [Option.bind_eq_some_iff] at hs; obtain ⟨a, ha, hs⟩ := hs; simp only [ha, Option.bind_some]
    simp only [Option.map_eq_some_iff, Prod.mk.injEq] at hs; obtain ⟨a, ha, rfl, rfl⟩ := hs; exact ⟨rfl, fun _ => by rw [ha]; rfl⟩
  case uncast x =>
    simp only [step, Option.map_eq_some_iff, Prod.mk.injEq] at hs ⊢; obtain ⟨a, ha, rfl, rfl⟩ := hs; exact ⟨rfl, fun _ => ⟨_, ha, rfl, trivial⟩⟩
  case cast u s x =>
    simp only [step, Option.map_eq_some_iff, Prod.mk.injEq] at hs ⊢; obtain ⟨a, ha, rfl, rfl⟩ := hs; exact ⟨rfl, fun _ => ⟨_, ha, rfl, trivial⟩⟩
  case eqPtr neg x y =>
    simp only [step, Option.map_eq_some_iff, Prod.mk.injEq] at hs ⊢; obtain ⟨a, ha, rfl, rfl⟩ := hs; exact ⟨rfl, fun _ => ⟨_, ha, rfl, trivial⟩⟩
  case sliceData x =>
    simp only [step, Option.map_eq_some_iff, Prod.mk.injEq] at hs ⊢; obtain ⟨a, ha, rfl, rfl⟩ := hs; exact ⟨rfl, fun _ => ⟨_, ha, rfl, trivial⟩⟩
  case lookup kd z ok m k =>
    simp only [step, Option.map_eq_some_iff, Prod.mk.injEq] at hs ⊢; obtain ⟨a, ha, rfl, rfl⟩ := hs; exact ⟨rfl, fun _ => ⟨_, ha, rfl, trivial⟩⟩
  case lenM m =>
    simp only [step, Option.map_eq_some_iff, Prod.mk.injEq] at hs ⊢; obtain ⟨a, ha, rfl, rfl⟩ := hs; exact ⟨rfl, fun _ => ⟨_, ha, rfl, trivial⟩⟩
  case sliceArr n sz x lo hi =>
    have he : h' = h := by
      simp only [step] at hs
      split at hs
      · split at hs
        · simp only [Option.some.injEq, Prod.mk.injEq] at hs; exact hs.2.symm
        · simp at hs
      · split at hs
        · split at hs
          · simp only [Option.some.injEq, Prod.mk.injEq] at hs; exact hs.2.symm
          · simp at hs
        · simp at hs
      · simp at hs
    subst he
    exact ⟨rfl, fun _ => by simpa only [step] using hs⟩
  case slice sz x lo hi' mx =>
    cases mx with
    | some m => simp at hi
    | none =>
      have key : ∀ {l : Nat} {e : Option Nat} {h' : Heap}, sliceV h sz (x.get en) l e none = some (v, h') → h' = h := by
        intro l e h' hs
        unfold sliceV at hs
        split at hs
        · split at hs
          · simp only [Option.some.injEq, Prod.mk.injEq] at hs; exact hs.2.symm
          · simp at hs
        · split at hs
          · split at hs
            · split at hs
              · simp only [Option.some.injEq, Prod.mk.injEq] at hs; exact hs.2.symm
              · simp at hs
            · simp at hs
          · simp at hs
        · split at hs
          · simp only [Option.some.injEq, Prod.mk.injEq] at hs; exact hs.2.symm
          · simp at hs
        · simp at hs
      have he : h' = h := by
        simp only [step, Option.bind_eq_some_iff] at hs
        obtain ⟨l, _, hs⟩ := hs
        cases hi' with
        | none => exact key hs
        | some e =>
          simp only [Option.bind_eq_some_iff] at hs
          obtain ⟨_, _, hs⟩ := hs
          exact key hs
      subst he
      exact ⟨rfl, fun b2 => by simpa only [step] using hs⟩

/-! ### Reads in other memory -/

/-- The blocks that an operation's operands lead into. -/
def foot (en : Env) (op : AOp) (b : Nat) : Prop := ∃ x ∈ op.opds, blockOf (x.get en) = some b

theorem rowAt_mono {h h' : Heap} {b e : Nat} {r} (hk : ∀ o, h[b]? = some o → h'[b]? = some o) (hr : rowAt h b e = some r) : rowAt h' b e = some r := by
  unfold rowAt at hr ⊢
  cases hb : h[b]? with
  | none => rw [hb] at hr; simp at hr
  | some o => rw [hk o hb]; rw [hb] at hr; exact hr

theorem boxAt_mono {h h' : Heap} {b : Nat} {r} (hk : ∀ o, h[b]? = some o → h'[b]? = some o) (hr : boxAt h b = some r) : boxAt h' b = some r := by
  unfold boxAt at hr ⊢
  cases hb : h[b]? with
  | none => rw [hb] at hr; simp at hr
  | some o => rw [hk o hb]; rw [hb] at hr; exact hr

theorem elems_mono {h h' : Heap} {sz : Nat} {x : V} {r} (hk : ∀ b o, blockOf x = some b → h[b]? = some o → h'[b]? = some o) (hr : elems sz h x = some r) : elems sz h' x = some r := by
  unfold elems at hr ⊢
  split at hr
  · exact hr
  · rename_i b e off len
    cases hra : rowAt h b e with
    | none => rw [hra] at hr; simp at hr
    | some p => rw [rowAt_mono (fun o => hk b o rfl) hra]; rw [hra] at hr; exact hr
  · exact hr
  · simp at hr

theorem loadV_mono {h h' : Heap} {n : Option Nat} {x : V} {r} (hk : ∀ b o, blockOf x = some b → h[b]? = some o → h'[b]? = some o) (hr : loadV h n x = some r) : loadV h' n x = some r := by
  unfold loadV at hr ⊢
  split at hr
  · rename_i b off
    cases hb : h[b]? with
    | none => rw [hb] at hr; simp at hr
    | some o => simp only [hk b o rfl hb]; rw [hb] at hr; exact hr
  · rename_i b e i off
    cases hra : rowAt h b e with
    | none => rw [hra] at hr; simp at hr
    | some p => simp only [rowAt_mono (fun o => hk b o rfl) hra]; rw [hra] at hr; exact hr
  · exact hr
  · simp at hr

theorem indexV_mono {h h' : Heap} {s k : Nat} {x : V} {r} (hk : ∀ b o, blockOf x = some b → h[b]? = some o → h'[b]? = some o) (hr : indexV h s k x = some r) : indexV h' s k x = some r := by
  unfold indexV at hr ⊢
  split at hr
  · exact hr
  · rename_i b e off len
    cases hra : rowAt h b e with
    | none => rw [hra] at hr; simp at hr
    | some p => simp only [rowAt_mono (fun o => hk b o rfl) hra]; rw [hra] at hr; exact hr
  · simp at hr

theorem sliceV_mono {h h' : Heap} {sz lo : Nat} {hi : Option Nat} {x : V} {r} (hk : ∀ b o, blockOf x = some b → h[b]? = some o → h'[b]? = some o) (hr : sliceV h sz x lo hi none = some (r, h)) : sliceV h' sz x lo hi none = some (r, h') := by
  unfold sliceV at hr ⊢
  split at hr
  · split at hr
    · rename_i hc
      rw [if_pos hc]
      simp only [Option.some.injEq, Prod.mk.injEq] at hr ⊢
      exact ⟨hr.1, trivial⟩
    · simp at hr
  · rename_i b ep off len
    split at hr
    · rename_i hc
      rw [if_pos hc]
      cases hb : h[b]? with
      | none => rw [hb] at hr; simp at hr
      | some o =>
        rw [hk b o rfl hb]
        rw [hb] at hr
        cases o with
        | row t z e' rs =>
          simp only at hr ⊢
          split at hr
          · rename_i hz
            rw [if_pos hz]
            simp only [Option.some.injEq, Prod.mk.injEq] at hr ⊢
            exact ⟨hr.1, trivial⟩
          · simp at hr
        | _ => simp at hr
    · simp at hr
  · split at hr
    · rename_i hc
      rw [if_pos hc]
      simp only [Option.some.injEq, Prod.mk.injEq] at hr ⊢
      exact ⟨hr.1, trivial⟩
    · simp at hr
  · simp at hr

theorem samePtr_mono {h h' : Heap} {x y : V} {r} (hx : ∀ b o, blockOf x = some b → h[b]? = some o → h'[b]? = some o) (hy : ∀ b o, blockOf y = some b → h[b]? = some o → h'[b]? = some o) (hr : samePtr h x y = some r) : samePtr h' x y = some r := by
  unfold samePtr at hr ⊢
  split at hr
  · exact hr
  · exact hr
  · exact hr
  · rename_i b o c p
    simp only [Option.bind_eq_some_iff, Option.map_eq_some_iff] at hr ⊢
    obtain ⟨u, h1, v, h2, h3⟩ := hr
    exact ⟨u, boxAt_mono (fun o => hx b o rfl) h1, v, boxAt_mono (fun o => hy c o rfl) h2, h3⟩
  · simp at hr

theorem read_mono {base : Nat} {en : Env} {h h' : Heap} {op : AOp} {v : V} (hi : op.reads = true) (hk : ∀ b o, foot en op b → h[b]? = some o → h'[b]? = some o) (hs : step base en h op = some (v, h)) :
    step base en h' op = some (v, h') := by
  by_cases hin : op.inert = true
  · exact (inert_step hin hs).2 base h'
  cases op <;> simp [AOp.reads, AOp.inert] at hi hin
  case load n a =>
    simp only [step, Option.map_eq_some_iff, Prod.mk.injEq] at hs ⊢
    obtain ⟨r, h1, h2, _⟩ := hs
    exact ⟨r, loadV_mono (fun b o e => hk b o ⟨a, by simp [AOp.opds], e⟩) h1, h2, trivial⟩
  case strOf x =>
    simp only [step, Option.bind_eq_some_iff, Option.map_eq_some_iff, Prod.mk.injEq] at hs ⊢
    obtain ⟨r, h1, l, h2, h3, _⟩ := hs
    exact ⟨r, elems_mono (fun b o e => hk b o ⟨x, by simp [AOp.opds], e⟩) h1, l, h2, h3, trivial⟩
  case indexS sz x i =>
    simp only [step, Option.bind_eq_some_iff, Option.map_eq_some_iff, Prod.mk.injEq] at hs ⊢
    obtain ⟨k, h0, r, h1, h2, _⟩ := hs
    exact ⟨k, h0, r, indexV_mono (fun b o e => hk b o ⟨x, by simp [AOp.opds], e⟩) h1, h2, trivial⟩
  case uncast x =>
    simp only [step, Option.map_eq_some_iff, Prod.mk.injEq] at hs ⊢
    obtain ⟨r, h1, h2, _⟩ := hs
    refine ⟨r, ?_, h2, trivial⟩
    have hk' : ∀ b o, blockOf (x.get en) = some b → h[b]? = some o → h'[b]? = some o := fun b o e => hk b o ⟨x, by simp [AOp.opds], e⟩
    clear h2
    generalize x.get en = y at h1 hk'
    unfold uncastV at h1 ⊢
    split at h1
    · exact h1
    · rename_i b off
      simp only [Option.bind_eq_some_iff] at h1 ⊢
      obtain ⟨p, h2, h3⟩ := h1
      exact ⟨p, boxAt_mono (fun o => hk' b o rfl) h2, h3⟩
    · simp at h1
  case cast u s x =>
    simp only [step, Option.map_eq_some_iff, Prod.mk.injEq] at hs ⊢
    obtain ⟨r, h1, h2, _⟩ := hs
    refine ⟨r, ?_, h2, trivial⟩
    have hk' : ∀ b o, blockOf (x.get en) = some b → h[b]? = some o → h'[b]? = some o := fun b o e => hk b o ⟨x, by simp [AOp.opds], e⟩
    clear h2
    generalize x.get en = y at h1 hk'
    unfold castV at h1 ⊢
    split at h1
    · exact h1
    · rename_i b
      simp only [Option.bind_eq_some_iff] at h1 ⊢
      obtain ⟨p, h2, h3⟩ := h1
      exact ⟨p, boxAt_mono (fun o => hk' b o rfl) h2, h3⟩
    · simp at h1
  case eqPtr neg x y =>
    simp only [step, Option.map_eq_some_iff, Prod.mk.injEq] at hs ⊢
    obtain ⟨r, h1, h2, _⟩ := hs
    exact ⟨r, samePtr_mono (fun b o e => hk b o ⟨x, by simp [AOp.opds], e⟩) (fun b o e => hk b o ⟨y, by simp [AOp.opds], e⟩) h1, h2, trivial⟩
  case sliceData x =>
    simp only [step, Option.map_eq_some_iff, Prod.mk.injEq] at hs ⊢
    obtain ⟨r, h1, h2, _⟩ := hs
    refine ⟨r, ?_, h2, trivial⟩
    have hk' : ∀ b o, blockOf (x.get en) = some b → h[b]? = some o → h'[b]? = some o := fun b o e => hk b o ⟨x, by simp [AOp.opds], e⟩
    clear h2
    generalize x.get en = y at h1 hk'
    unfold sliceDataV at h1 ⊢
    split at h1
    · exact h1
    · rename_i b e off len
      cases hra : rowAt h b e with
      | none => rw [hra] at h1; simp at h1
      | some p => simp only [rowAt_mono (fun o => hk' b o rfl) hra]; rw [hra] at h1; exact h1
    · simp at h1
  case lookup kd z ok m k =>
    simp only [step, Option.map_eq_some_iff, Prod.mk.injEq] at hs ⊢
    obtain ⟨r, h1, h2, _⟩ := hs
    refine ⟨r, ?_, h2, trivial⟩
    have hk' : ∀ b o, blockOf (m.get en) = some b → h[b]? = some o → h'[b]? = some o := fun b o e => hk b o ⟨m, by simp [AOp.opds], e⟩
    clear h2
    generalize m.get en = y at h1 hk'
    unfold lookupV at h1 ⊢
    simp only [Option.bind_eq_some_iff] at h1 ⊢
    obtain ⟨key, hkey, h1⟩ := h1
    refine ⟨key, hkey, ?_⟩
    split at h1
    · exact h1
    · rename_i b
      cases hb : h[b]? with
      | none => rw [hb] at h1; simp at h1
      | some o => simp only [hk' b o rfl hb]; rw [hb] at h1; exact h1
    · simp at h1
  case lenM m =>
    simp only [step, Option.map_eq_some_iff, Prod.mk.injEq] at hs ⊢
    obtain ⟨r, h1, h2, _⟩ := hs
    refine ⟨r, ?_, h2, trivial⟩
    have hk' : ∀ b o, blockOf (m.get en) = some b → h[b]? = some o → h'[b]? = some o := fun b o e => hk b o ⟨m, by simp [AOp.opds], e⟩
    clear h2
    generalize m.get en = y at h1 hk'
    unfold lenMV at h1 ⊢
    split at h1
    · exact h1
    · rename_i b
      cases hb : h[b]? with
      | none => rw [hb] at h1; simp at h1
      | some o => simp only [hk' b o rfl hb]; rw [hb] at h1; exact h1
    · simp at h1
  case sliceArr n sz x lo hi =>
    have hk' : ∀ b o, blockOf (x.get en) = some b → h[b]? = some o → h'[b]? = some o := fun b o e => hk b o ⟨x, by simp [AOp.opds], e⟩
    simp only [step] at hs ⊢
    generalize x.get en = y at hs hk'
    split at hs
    · split at hs
      · rename_i hc
        simp only [Option.some.injEq, Prod.mk.injEq] at hs
        obtain ⟨rfl, _⟩ := hs
        simp [*]
      · simp at hs
    · rename_i b ep l e e1 e2
      split at hs
      · rename_i z rs hra
        split at hs
        · rename_i hc
          simp only [Option.some.injEq, Prod.mk.injEq] at hs
          obtain ⟨rfl, _⟩ := hs
          simp only [rowAt_mono (fun o => hk' b o rfl) hra, if_pos hc]
        · simp at hs
      · simp at hs
    · simp at hs
  case slice sz x lo hi' mx =>
    cases mx with
    | some m => simp at hi
    | none =>
      have hk' : ∀ b o, blockOf (x.get en) = some b → h[b]? = some o → h'[b]? = some o := fun b o e => hk b o ⟨x, by simp [AOp.opds], e⟩
      simp only [step, Option.bind_eq_some_iff] at hs ⊢
      obtain ⟨l, h1, hs⟩ := hs
      refine ⟨l, h1, ?_⟩
      cases hi' with
      | none => exact sliceV_mono hk' hs
      | some e =>
        simp only [Option.bind_eq_some_iff] at hs ⊢
        obtain ⟨k, h2, hs⟩ := hs
        exact ⟨k, h2, sliceV_mono hk' hs⟩

/-! ### Two operations -/

section
variable {call : CallF} {base : Nat}

/-- What an operation of a region comes to; one that its guard does not want leaves its slot without a value. -/
def evVal (call : CallF) (base : Nat) (o : AOper) (en : Env) (h : Heap) : Option (V × Heap) :=
  match o.guard with
  | none => evOper call base en h o
  | some (g, want) => match gOk (en g) want with
    | some true => evOper call base en h o
    | some false => some (.tup [], h)
    | none => none

/-- Either an operation is run, or it is not wanted. -/
theorem evVal_inv {o : AOper} {en : Env} {h h' : Heap} {v : V} (hs : evVal call base o en h = some (v, h')) :
    ((∀ h2, evVal call base o en h2 = evOper call base en h2 o) ∧ evOper call base en h o = some (v, h')) ∨ ((∀ h2, evVal call base o en h2 = some (.tup [], h2)) ∧ v = .tup [] ∧ h' = h) := by
  rcases hg : o.guard with _ | ⟨g, want⟩
  · have hall : ∀ h2, evVal call base o en h2 = evOper call base en h2 o := fun h2 => by simp only [evVal, hg]
    exact .inl ⟨hall, by rw [← hall]; exact hs⟩
  · cases hen : gOk (en g) want with
    | none => simp [evVal, hg, hen] at hs
    | some t =>
      cases t with
      | true =>
        have hall : ∀ h2, evVal call base o en h2 = evOper call base en h2 o := fun h2 => by simp only [evVal, hg, hen]
        exact .inl ⟨hall, by rw [← hall]; exact hs⟩
      | false =>
        have hall : ∀ h2, evVal call base o en h2 = some (.tup [], h2) := fun h2 => by simp only [evVal, hg, hen]
        rw [hall] at hs
        simp only [Option.some.injEq, Prod.mk.injEq] at hs
        exact .inr ⟨hall, hs.1.symm, hs.2.symm⟩

theorem evOps_cons (o : AOper) (r : List AOper) (en : Env) (h : Heap) : evOps call base (o :: r) en h = (evVal call base o en h).bind fun p => evOps call base r (en.put o.dst p.1) p.2 := by
  rcases hg : o.guard with _ | ⟨g, want⟩
  · simp only [evVal, evOps, hg]
    cases evOper call base en h o <;> rfl
  · simp only [evVal, evOps, hg]
    cases gOk (en g) want with
    | none => rfl
    | some t =>
      cases t with
      | true => simp only; cases evOper call base en h o <;> rfl
      | false => rfl

theorem offOk_congr {o : AOper} {en en' : Env} (he : ∀ t ∈ o.slots, en t = en' t) : offOk en o = offOk en' o := by
  have ho : ∀ t ∈ opdTmps o.op.opds, en t = en' t := fun t ht => he t (by simp [AOper.slots, ht])
  have h1 : ∀ t ∈ o.off, en t = en' t := fun t ht => he t (by simp [AOper.slots, ht])
  have all_on : ∀ {α : Type} (l : List α) (p q : α → Bool), (∀ a ∈ l, p a = q a) → l.all p = l.all q := by
    intro α l p q hpq
    induction l with
    | nil => rfl
    | cons a l ih => rw [List.all_cons, List.all_cons, hpq a (by simp), ih fun b hb => hpq b (by simp [hb])]
  unfold offOk
  refine all_on _ _ _ fun t ht => ?_
  rw [h1 t ht]
  cases blockOf (en' t) with
  | none => rfl
  | some b => exact all_on _ _ _ fun x hx => by rw [get_congr ho hx]

theorem evOp_congr {op : AOp} {en en' : Env} {h : Heap} (ho : ∀ t ∈ opdTmps op.opds, en t = en' t) : evOp call base en h op = evOp call base en' h op := by
  unfold evOp
  split
  · rename_i f args
    have hg : ∀ x ∈ (AOp.call f args).opds, x.get en = x.get en' := fun x hx => get_congr ho hx
    rw [hg f (by simp [AOp.opds]), gets_congr (l := args) (fun t ht => ho t (by simp only [AOp.opds, mem_opdTmps] at ht ⊢; exact List.mem_cons_of_mem _ ht))]
  · exact step_congr ho

theorem evVal_congr {o : AOper} {en en' : Env} {h : Heap} (he : ∀ t ∈ o.slots, en t = en' t) : evVal call base o en h = evVal call base o en' h := by
  have hop : evOper call base en h o = evOper call base en' h o := by
    unfold evOper
    rw [offOk_congr he, evOp_congr fun t ht => he t (by simp [AOper.slots, ht])]
  unfold evVal
  split
  · exact hop
  · rename_i g want e
    rw [he g (by simp [AOper.slots, e]), hop]

theorem evOp_noCall {op : AOp} {en : Env} {h : Heap} (hn : ∀ f a, op ≠ .call f a) : evOp call base en h op = step base en h op := by
  unfold evOp
  split
  · rename_i f a
    exact absurd rfl (hn f a)
  · rfl

theorem evOper_inv {o : AOper} {en : Env} {h : Heap} {r} (hs : evOper call base en h o = some r) : offOk en o = true ∧ evOp call base en h o.op = some r := by
  unfold evOper at hs
  split at hs
  · rename_i ho; exact ⟨ho, hs⟩
  · simp at hs

theorem evOper_of {o : AOper} {en : Env} {h : Heap} {r} (ho : offOk en o = true) (hs : evOp call base en h o.op = some r) : evOper call base en h o = some r := by
  unfold evOper
  rw [if_pos ho]
  exact hs

theorem inert_noCall {op : AOp} (hi : op.inert = true) : ∀ f a, op ≠ .call f a := fun f a e => by rw [e] at hi; simp [AOp.inert] at hi
theorem reads_noCall {op : AOp} (hi : op.reads = true) : ∀ f a, op ≠ .call f a := fun f a e => by rw [e] at hi; simp [AOp.reads, AOp.inert] at hi

theorem evVal_inert {o : AOper} {en : Env} {h h' : Heap} {v : V} (hi : o.op.inert = true) (hs : evVal call base o en h = some (v, h')) : h' = h ∧ ∀ h2, evVal call base o en h2 = some (v, h2) := by
  rcases evVal_inv hs with ⟨hall, e⟩ | ⟨hall, rfl, rfl⟩
  · obtain ⟨ho, e⟩ := evOper_inv e
    rw [evOp_noCall (inert_noCall hi)] at e
    refine ⟨(inert_step hi e).1, fun h2 => ?_⟩
    rw [hall]
    exact evOper_of ho (by rw [evOp_noCall (inert_noCall hi)]; exact (inert_step hi e).2 base h2)
  · exact ⟨rfl, hall⟩

theorem evVal_reads {o : AOper} {en : Env} {h h' : Heap} {v : V} (hi : o.op.reads = true) (hs : evVal call base o en h = some (v, h')) :
    h' = h ∧ ∀ h2, (∀ b o', foot en o.op b → offOk en o = true → h[b]? = some o' → h2[b]? = some o') → evVal call base o en h2 = some (v, h2) := by
  rcases evVal_inv hs with ⟨hall, e⟩ | ⟨hall, rfl, rfl⟩
  · obtain ⟨ho, e⟩ := evOper_inv e
    rw [evOp_noCall (reads_noCall hi)] at e
    have h1 := (reads_step hi e).1
    subst h1
    refine ⟨rfl, fun h2 hk => ?_⟩
    rw [hall]
    exact evOper_of ho (by rw [evOp_noCall (reads_noCall hi)]; exact read_mono hi (fun b o' hf => hk b o' hf ho) e)
  · exact ⟨rfl, fun h2 _ => hall h2⟩

theorem Env.put_other {en : Env} {d : Option Nat} {v : V} {t : Nat} (h : d ≠ some t) : (en.put d v) t = en t := by
  cases d with
  | none => rfl
  | some d =>
    have : t ≠ d := fun e => h (by rw [e])
    simp [Env.put, Env.upd, this]

theorem Env.put_comm {en : Env} {a b : Option Nat} {v u : V} (h : ∀ d, a = some d → b ≠ some d) : (en.put a v).put b u = (en.put b u).put a v := by
  cases a with
  | none => rfl
  | some a =>
    cases b with
    | none => rfl
    | some b =>
      have hne : a ≠ b := fun e => h a rfl (by rw [e])
      funext t
      simp only [Env.put, Env.upd]
      split <;> split <;> simp_all

theorem memO_false {x : Option Nat} {l : List Nat} (h : memO x l = false) : ∀ t ∈ l, x ≠ some t := by
  intro t ht e
  rw [e] at h
  simp [memO, ht] at h

/-- Calls of quiet functions leave what is there. -/
def QuietOk (quiet : FuncId → Nat) (call : CallF) : Prop :=
  (∀ k, quiet k ≠ 0 → ∀ base args h v h', call base k args h = some (v, h') → ∃ ext, h' = h ++ ext) ∧
  (∀ k, quiet k = 2 → ∀ base args h v h', call base k args h = some (v, h') → h' = h ∧ ∀ b2 h2, call b2 k args h2 = some (v, h2))

theorem ext_mono {h ext : Heap} {b : Nat} {o : Obj} (hb : h[b]? = some o) : (h ++ ext)[b]? = some o := by
  rw [List.getElem?_append_left (List.getElem?_eq_some_iff.1 hb).1]
  exact hb

theorem grows_step {quiet : FuncId → Nat} (hq : QuietOk quiet call) {op : AOp} {en : Env} {h h' : Heap} {v : V} (hg : op.grows quiet = true) (hs : evOp call base en h op = some (v, h')) : ∃ ext, h' = h ++ ext := by
  unfold AOp.grows at hg
  split at hg
  · simp only [evOp, step, Option.some.injEq, Prod.mk.injEq] at hs
    exact ⟨_, hs.2.symm⟩
  · simp only [evOp, step] at hs
    split at hs
    · simp only [Option.some.injEq, Prod.mk.injEq] at hs
      exact ⟨_, hs.2.symm⟩
    · simp at hs
  · simp only [evOp, step, Option.bind_eq_some_iff] at hs
    obtain ⟨rs, _, hs⟩ := hs
    split at hs
    · split at hs
      · simp only [Option.some.injEq, Prod.mk.injEq] at hs
        exact ⟨_, hs.2.symm⟩
      · simp at hs
    split at hs
    · simp only [Option.some.injEq, Prod.mk.injEq] at hs
      exact ⟨[], by simp [hs.2]⟩
    · split at hs
      · simp only [Option.some.injEq, Prod.mk.injEq] at hs
        exact ⟨_, hs.2.symm⟩
      · simp at hs
  · simp only [evOp, step] at hs
    split at hs
    · split at hs
      · simp only [Option.some.injEq, Prod.mk.injEq] at hs
        exact ⟨_, hs.2.symm⟩
      · simp at hs
    · simp at hs
  · simp only [evOp, step] at hs
    split at hs
    · simp only [Option.some.injEq, Prod.mk.injEq] at hs
      exact ⟨_, hs.2.symm⟩
    · simp at hs
  · simp only [evOp, step] at hs
    split at hs
    · simp only [Option.some.injEq, Prod.mk.injEq] at hs
      exact ⟨_, hs.2.symm⟩
    · simp at hs
  · simp only [evOp, step, Option.some.injEq, Prod.mk.injEq] at hs
    exact ⟨_, hs.2.symm⟩
  · rename_i k args
    simp only [evOp, Opd.get, target, List.nil_append, List.append_nil] at hs
    exact hq.1 k (by simpa using hg) _ _ _ _ _ hs
  · simp at hg

theorem evVal_grows {quiet : FuncId → Nat} (hq : QuietOk quiet call) {o : AOper} {en : Env} {h h' : Heap} {v : V} (hg : o.op.grows quiet = true) (hs : evVal call base o en h = some (v, h')) : ∃ ext, h' = h ++ ext := by
  rcases evVal_inv hs with ⟨_, e⟩ | ⟨_, _, rfl⟩
  · exact grows_step hq hg (evOper_inv e).2
  · exact ⟨[], by simp⟩

theorem storeV_other {n : Nat} {h h' : Heap} {a x : V} (hs : storeV base h n a x = some h') : ∀ b, blockOf a ≠ some b → h'[b]? = h[b]? := by
  intro b hb
  unfold storeV at hs
  split at hs
  · split at hs
    · rename_i c off
      have hne : c ≠ b := fun e => hb (by rw [e]; rfl)
      split at hs
      · split at hs
        · injection hs with hs
          rw [← hs, List.getElem?_set_ne hne]
        · simp at hs
      · simp at hs
    · rename_i c e i off
      have hne : c ≠ b := fun e => hb (by rw [e]; rfl)
      split at hs
      · split at hs
        · split at hs
          · split at hs
            · injection hs with hs
              rw [← hs, List.getElem?_set_ne hne]
            · split at hs
              · injection hs with hs
                rw [← hs, List.getElem?_set_ne hne]
              · simp at hs
          · simp at hs
        · simp at hs
      · simp at hs
    · simp at hs
  · simp at hs

theorem evVal_clear {x y : AOper} {en : Env} {h h' : Heap} {u : V} (hc : x.clear y = true) (hs : evVal call base y en h = some (u, h')) :
    ∀ b o', foot en x.op b → offOk en x = true → h[b]? = some o' → h'[b]? = some o' := by
  intro b o' hf hoff hb
  rcases evVal_inv hs with ⟨_, e⟩ | ⟨_, _, rfl⟩
  · have e := (evOper_inv e).2
    unfold AOper.clear at hc
    split at hc
    · rename_i n t z eop
      rw [eop] at e
      simp only [evOp, step, Option.map_eq_some_iff, Prod.mk.injEq, Opd.get] at e
      obtain ⟨h2, e1, _, rfl⟩ := e
      rw [storeV_other e1 b]
      · exact hb
      · intro eb
        obtain ⟨z, hz, ez⟩ := hf
        have := List.all_eq_true.1 hoff t (by simpa using hc)
        rw [eb] at this
        simp only [List.all_eq_true] at this
        have := this z hz
        simp [ez] at this
    · simp at hc
  · exact hb

theorem evVal_inertQ {quiet : FuncId → Nat} (hq : QuietOk quiet call) {o : AOper} {en : Env} {h h' : Heap} {v : V} (hi : o.op.inertQ quiet = true) (hs : evVal call base o en h = some (v, h')) : h' = h ∧ ∀ h2, evVal call base o en h2 = some (v, h2) := by
  by_cases hin : o.op.inert = true
  · exact evVal_inert hin hs
  rcases evVal_inv hs with ⟨hall, e⟩ | ⟨hall, rfl, rfl⟩
  · obtain ⟨ho, e⟩ := evOper_inv e
    unfold AOp.inertQ at hi
    split at hi
    · rename_i k args eop
      rw [eop] at e
      simp only [evOp, Opd.get, target, List.nil_append, List.append_nil] at e
      obtain ⟨q1, q2⟩ := hq.2 k (by simpa using hi) _ _ _ _ _ e
      refine ⟨q1, fun h2 => ?_⟩
      rw [hall]
      refine evOper_of ho ?_
      rw [eop]
      simp only [evOp, Opd.get, target, List.nil_append, List.append_nil]
      exact q2 base h2
    · exact absurd hi hin
  · exact ⟨rfl, hall⟩

theorem swap {quiet : FuncId → Nat} (hq : QuietOk quiet call) {x y : AOper} (hc : commB quiet x y = true) {en : Env} {h : Heap} {r : List AOper} {z : Env × Heap} (hs : evOps call base (x :: y :: r) en h = some z) : evOps call base (y :: x :: r) en h = some z := by
  simp only [commB, Bool.and_eq_true, Bool.not_eq_true', Bool.or_eq_true] at hc
  obtain ⟨⟨⟨hxy, hyx⟩, hd⟩, hm⟩ := hc
  have hd' : ∀ d, x.dst = some d → y.dst ≠ some d := by
    intro d e1 e2
    rw [e1, e2] at hd
    simp at hd
  simp only [evOps_cons, Option.bind_eq_some_iff] at hs ⊢
  obtain ⟨⟨v, h1⟩, e1, ⟨u, h2⟩, e2, e3⟩ := hs
  simp only at e1 e2 e3
  have cx : ∀ (u : V) (h : Heap), evVal call base x (en.put y.dst u) h = evVal call base x en h := fun u h => evVal_congr fun t ht => Env.put_other (memO_false hyx t ht)
  rw [evVal_congr (o := y) (en' := en) fun t ht => Env.put_other (memO_false hxy t ht)] at e2
  rw [Env.put_comm hd'] at e3
  rcases hm with (hm | hm) | ⟨hmx, hmy⟩
  · obtain ⟨rfl, hall⟩ := evVal_inertQ hq hm e1
    exact ⟨(u, h2), e2, (v, h2), by rw [cx]; exact hall h2, e3⟩
  · obtain ⟨rfl, hall⟩ := evVal_inertQ hq hm e2
    exact ⟨(u, h), hall h, (v, h2), by rw [cx]; exact e1, e3⟩
  · obtain ⟨rfl, hall⟩ := evVal_reads hmx e1
    rcases hmy with (hmy | hmy) | hmy
    · obtain ⟨rfl, _⟩ := evVal_reads hmy e2
      exact ⟨(u, h2), e2, (v, h2), by rw [cx]; exact e1, e3⟩
    · obtain ⟨ext, rfl⟩ := evVal_grows hq hmy e2
      exact ⟨(u, _), e2, (v, _), by rw [cx]; exact hall _ (fun b o' _ _ hb => ext_mono hb), e3⟩
    · exact ⟨(u, h2), e2, (v, h2), by rw [cx]; exact hall _ (evVal_clear hmy e2), e3⟩

theorem evOps_append (p r : List AOper) (en : Env) (h : Heap) : evOps call base (p ++ r) en h = (evOps call base p en h).bind fun z => evOps call base r z.1 z.2 := by
  induction p generalizing en h with
  | nil => rfl
  | cons o p ih =>
    rw [List.cons_append, evOps_cons, evOps_cons]
    cases evVal call base o en h with
    | none => rfl
    | some z => exact ih _ _

/-- An operation that may go ahead of all before it comes first. -/
theorem front {quiet : FuncId → Nat} (hq : QuietOk quiet call) {y : AOper} {r : List AOper} : ∀ {p : List AOper} {en : Env} {h : Heap} {z : Env × Heap}, (∀ x ∈ p, commB quiet x y = true) → evOps call base (p ++ y :: r) en h = some z → evOps call base (y :: (p ++ r)) en h = some z
  | [], _, _, _, _, hs => hs
  | x :: p, en, h, z, hc, hs => by
    refine swap hq (hc x (by simp)) ?_
    rw [List.cons_append, evOps_cons, Option.bind_eq_some_iff] at hs
    obtain ⟨q, e1, e2⟩ := hs
    rw [evOps_cons, Option.bind_eq_some_iff]
    exact ⟨q, e1, front hq (fun x hx => hc x (by simp [hx])) e2⟩

/-- What an operation that reads frozen memory alone does, the plain one does. -/
theorem frz_op {op : AOp} {en : Env} {h h' : Heap} {v : V} (hs : evOp call base en h op.frz = some (v, h')) : evOp call base en h op = some (v, h') := by
  cases op
  case load n a =>
    simp only [AOp.frz, evOp, step] at hs ⊢
    split at hs
    · rename_i cs off e
      rw [e]
      simpa only [loadV] using hs
    · simp at hs
  case indexS sz x i =>
    simp only [AOp.frz, evOp, step, Option.bind_eq_some_iff] at hs ⊢
    obtain ⟨k, hk, hs⟩ := hs
    refine ⟨k, hk, ?_⟩
    split at hs
    · rename_i e2 z rs e
      rw [e]
      split at hs
      · rename_i hz
        simp only [Option.map_eq_some_iff, Prod.mk.injEq] at hs
        obtain ⟨cs, h1, rfl, rfl⟩ := hs
        simp [indexV, hz, h1]
      · simp at hs
    · simp at hs
  case sliceArr n sz x lo hi =>
    simp only [AOp.frz, evOp, step] at hs ⊢
    split at hs
    · rename_i e1 e2 e3
      rw [e1, e2, e3]
      exact hs
    · simp at hs
  all_goals exact hs

/-- One operation stands for another. -/
def Stands (a b : AOper) : Prop := a.dst = b.dst ∧ a.guard = b.guard ∧ ∀ (call : CallF) (base : Nat) (en : Env) (h : Heap) (r : V × Heap), evOper call base en h a = some r → evOper call base en h b = some r

theorem Stands.refl (a : AOper) : Stands a a := ⟨rfl, rfl, fun _ _ _ _ _ h => h⟩

theorem offOk_nil {o : AOper} (h : o.off = []) (en : Env) : offOk en o = true := by simp [offOk, h]

theorem Stands.frz {a : AOper} (h : a.off = []) : Stands a.frz a := by
  refine ⟨rfl, rfl, fun call base en hh r hs => ?_⟩
  exact evOper_of (offOk_nil h en) (frz_op (evOper_inv hs).2)

theorem Stands.keep {a : AOper} (av : List Nat) (h : a.off = []) : Stands (a.keep av) a := by
  unfold AOper.keep
  split
  · refine ⟨rfl, rfl, fun call base en hh r hs => ?_⟩
    exact evOper_of (offOk_nil h en) (evOper_inv hs).2
  · exact Stands.refl a

theorem Stands.val {a b : AOper} (hst : Stands a b) {en : Env} {h : Heap} {r : V × Heap} (hs : evVal call base a en h = some r) : evVal call base b en h = some r := by
  obtain ⟨_, hg, hev⟩ := hst
  rcases hga : a.guard with _ | ⟨g, want⟩
  · have hgb := hg ▸ hga
    simp only [evVal, hga] at hs
    simp only [evVal, hgb]
    exact hev _ _ _ _ _ hs
  · have hgb := hg ▸ hga
    simp only [evVal, hga] at hs
    simp only [evVal, hgb]
    cases hen : gOk (en g) want with
    | none => rw [hen] at hs; simp at hs
    | some t =>
      rw [hen] at hs
      cases t with
      | true => exact hev _ _ _ _ _ hs
      | false => exact hs
end
end Go.Am
end
section
/- Am: reasoning. Fuel is hidden. -/
namespace Go.Am

/-! ### More fuel, the same answer -/

def CallLe (c d : CallF) : Prop := ∀ b f a h r, c b f a h = some r → d b f a h = some r

theorem evOper_mono {c d : CallF} (hc : CallLe c d) {base : Nat} {en : Env} {h : Heap} {o : AOper} {r : V × Heap} (hs : evOper c base en h o = some r) : evOper d base en h o = some r := by
  obtain ⟨ho, hs⟩ := evOper_inv hs
  refine evOper_of ho ?_
  unfold evOp at hs ⊢
  split at hs
  · split at hs
    · exact hc _ _ _ _ _ hs
    · simp at hs
  · exact hs

theorem evVal_mono {c d : CallF} (hc : CallLe c d) {base : Nat} {en : Env} {h : Heap} {o : AOper} {r : V × Heap} (hs : evVal c base o en h = some r) : evVal d base o en h = some r := by
  unfold evVal at hs ⊢
  split at hs
  · exact evOper_mono hc hs
  · rename_i g want hg
    cases hen : gOk (en g) want with
    | none => rw [hen] at hs; simp at hs
    | some t =>
      rw [hen] at hs
      cases t with
      | true => exact evOper_mono hc hs
      | false => exact hs

theorem evOps_mono {c d : CallF} (hc : CallLe c d) {base : Nat} : ∀ {ops : List AOper} {en : Env} {h : Heap} {r : Env × Heap}, evOps c base ops en h = some r → evOps d base ops en h = some r
  | [], _, _, _, hs => hs
  | o :: ops, en, h, r, hs => by
    rw [evOps_cons, Option.bind_eq_some_iff] at hs ⊢
    obtain ⟨p, h1, h2⟩ := hs
    exact ⟨p, evVal_mono hc h1, evOps_mono hc h2⟩

theorem iter_mono {f g : Env → Heap → Option (Ex × Env × Heap)} (hf : ∀ en h r, f en h = some r → g en h = some r) : ∀ {n m : Nat} {en : Env} {h : Heap} {r}, n ≤ m → iter f n en h = some r → iter g m en h = some r
  | 0, _, _, _, _, _, hs => by simp [iter] at hs
  | n + 1, 0, _, _, _, hnm, _ => by omega
  | n + 1, m + 1, en, h, r, hnm, hs => by
    unfold iter at hs ⊢
    split at hs
    · rename_i en1 h1 e1
      rw [hf _ _ _ e1]
      exact iter_mono hf (by omega) hs
    · rename_i hno
      rw [hf _ _ _ hs]
      split
      · rename_i e2
        injection e2 with e2
        subst e2
        exact absurd hs (hno _ _)
      · rfl

theorem evC_mono {c d : CallF} (hc : CallLe c d) {base n m : Nat} (hnm : n ≤ m) : ∀ {ac : ACode} {en : Env} {h : Heap} {r}, evC c base n ac en h = some r → evC d base m ac en h = some r
  | .skip, _, _, _, hs | .ret, _, _, _, hs | .exit _, _, _, _, hs | .fail, _, _, _, hs => by simp [evC] at hs ⊢ <;> exact hs
  | .seq a b, en, h, r, hs => by
    simp only [evC] at hs ⊢
    split at hs
    · rename_i en1 h1 e1
      rw [evC_mono hc hnm e1]
      exact evC_mono hc hnm hs
    · rename_i hno
      rw [evC_mono hc hnm hs]
      split
      · rename_i e2
        injection e2 with e2
        subst e2
        exact absurd hs (hno _ _)
      · rfl
  | .cond x a b, en, h, r, hs => by
    simp only [evC] at hs ⊢
    split at hs
    · split at hs
      · rename_i ht; rw [if_pos ht]; exact evC_mono hc hnm hs
      · rename_i ht; rw [if_neg ht]; exact evC_mono hc hnm hs
    · simp at hs
  | .region ops, en, h, r, hs => by
    simp only [evC] at hs ⊢
    split at hs
    · rename_i en1 h1 e1
      rw [evOps_mono hc e1]
      exact hs
    · simp at hs
  | .block id x, en, h, r, hs => by
    simp only [evC] at hs ⊢
    split at hs
    · rename_i i en1 h1 e1
      rw [evC_mono hc hnm e1]
      exact hs
    · rename_i hno
      rw [evC_mono hc hnm hs]
      split
      · rename_i e2
        injection e2 with e2
        subst e2
        exact absurd hs (hno _ _ _)
      · rfl
  | .loop x, en, h, r, hs => by
    simp only [evC] at hs ⊢
    exact iter_mono (fun _ _ _ e => evC_mono hc hnm e) hnm hs

mutual
theorem freezeV_mono {h : Heap} {base : Nat} : ∀ {n m : Nat} {v r : V}, n ≤ m → freezeV h base n v = some r → freezeV h base m v = some r
  | 0, _, _, _, _, hs => by simp [freezeV] at hs
  | n + 1, 0, _, _, hnm, _ => by omega
  | n + 1, m + 1, v, r, hnm, hs => by
    cases v
    case hsl b e off len =>
      simp only [freezeV] at hs ⊢
      split at hs
      · rename_i hb; rw [if_pos hb]; exact hs
      · rename_i hb
        rw [if_neg hb]
        split at hs
        · split at hs
          · rename_i hl
            rw [if_pos hl]
            split at hs
            · rename_i hg; rw [if_pos hg]; exact hs
            · rename_i hg
              rw [if_neg hg]
              simp only [Option.bind_eq_some_iff] at hs ⊢
              obtain ⟨x, h1, h2⟩ := hs
              exact ⟨x, freezeRows_mono (by omega) h1, h2⟩
          · simp at hs
        · simp at hs
    case agg cs =>
      simp only [freezeV, Option.map_eq_some_iff] at hs ⊢
      obtain ⟨x, h1, h2⟩ := hs
      exact ⟨x, freezeVs_mono (by omega) h1, h2⟩
    case tup cs =>
      simp only [freezeV, Option.map_eq_some_iff] at hs ⊢
      obtain ⟨x, h1, h2⟩ := hs
      exact ⟨x, freezeVs_mono (by omega) h1, h2⟩
    all_goals simpa only [freezeV] using hs
theorem freezeVs_mono {h : Heap} {base : Nat} : ∀ {n m : Nat} {v r : List V}, n ≤ m → freezeVs h base n v = some r → freezeVs h base m v = some r
  | 0, _, _, _, _, hs => by simp [freezeVs] at hs
  | n + 1, 0, _, _, hnm, _ => by omega
  | n + 1, m + 1, [], r, hnm, hs => by simpa only [freezeVs] using hs
  | n + 1, m + 1, v :: vs, r, hnm, hs => by
    simp only [freezeVs, Option.bind_eq_some_iff, Option.map_eq_some_iff] at hs ⊢
    obtain ⟨x, h1, y, h2, h3⟩ := hs
    exact ⟨x, freezeV_mono (by omega) h1, y, freezeVs_mono (by omega) h2, h3⟩
theorem freezeRows_mono {h : Heap} {base : Nat} : ∀ {n m : Nat} {v r : List (List V)}, n ≤ m → freezeRows h base n v = some r → freezeRows h base m v = some r
  | 0, _, _, _, _, hs => by simp [freezeRows] at hs
  | n + 1, 0, _, _, hnm, _ => by omega
  | n + 1, m + 1, [], r, hnm, hs => by simpa only [freezeRows] using hs
  | n + 1, m + 1, v :: vs, r, hnm, hs => by
    simp only [freezeRows, Option.bind_eq_some_iff, Option.map_eq_some_iff] at hs ⊢
    obtain ⟨x, h1, y, h2, h3⟩ := hs
    exact ⟨x, freezeVs_mono (by omega) h1, y, freezeRows_mono (by omega) h2, h3⟩
end

theorem evFunc_mono {c d : CallF} (hc : CallLe c d) {n m base : Nat} (hnm : n ≤ m) {A : AFunc} {args : List V} {h : Heap} {r : V × Heap} (hs : evFunc c n base A args h = some r) : evFunc d m base A args h = some r := by
  unfold evFunc at hs ⊢
  split at hs
  · rename_i hl
    rw [if_pos hl]
    simp only at hs ⊢
    split at hs
    · simp at hs
    · rename_i ex en h1 hno e1
      rw [evC_mono hc hnm e1]
      simp only
      cases ex with
      | exit id => exact absurd rfl (hno id)
      | normal =>
        simp only [Option.bind_eq_some_iff] at hs ⊢
        obtain ⟨x, h2, h3⟩ := hs
        refine ⟨x, h2, ?_⟩
        split at h3
        · rename_i hp
          simp only [if_pos hp, Option.map_eq_some_iff] at h3 ⊢
          obtain ⟨y, h4, h5⟩ := h3
          exact ⟨y, freezeV_mono hnm h4, h5⟩
        · rename_i hp
          rw [if_neg hp]
          exact h3
      | ret =>
        simp only [Option.bind_eq_some_iff] at hs ⊢
        obtain ⟨x, h2, h3⟩ := hs
        refine ⟨x, h2, ?_⟩
        split at h3
        · rename_i hp
          simp only [if_pos hp, Option.map_eq_some_iff] at h3 ⊢
          obtain ⟨y, h4, h5⟩ := h3
          exact ⟨y, freezeV_mono hnm h4, h5⟩
        · rename_i hp
          rw [if_neg hp]
          exact h3
    · simp at hs
  · simp at hs

section
variable {X : FuncId → Option (Nat → List V → Heap → Option (V × Heap))} {F : FuncId → Option AFunc}

theorem evCall_mono : ∀ {n m : Nat}, n ≤ m → CallLe (evCall X F n) (evCall X F m)
  | 0, _, _ => fun _ _ _ _ _ hs => by simp [evCall] at hs
  | n + 1, 0, hnm => by omega
  | n + 1, m + 1, hnm => fun b f a h r hs => by
    unfold evCall at hs ⊢
    split at hs
    · exact hs
    · split at hs
      · exact evFunc_mono (evCall_mono (by omega)) (by omega) hs
      · simp at hs
end

/-! ### What code comes to -/

/-- The functions of a program, as far as they are known. -/
structure Fns where
  X : FuncId → Option (Nat → List V → Heap → Option (V × Heap))
  F : FuncId → Option AFunc

section
variable (S : Fns) (base : Nat)

def WpF (f : FuncId) (args : List V) (h : Heap) (Q : V → Heap → Prop) : Prop := ∃ n v h', evCall S.X S.F n base f args h = some (v, h') ∧ Q v h'
def WpO (ops : List AOper) (en : Env) (h : Heap) (Q : Env → Heap → Prop) : Prop := ∃ n en' h', evOps (evCall S.X S.F n) base ops en h = some (en', h') ∧ Q en' h'
def WpC (c : ACode) (en : Env) (h : Heap) (Q : Ex → Env → Heap → Prop) : Prop := ∃ n ex en' h', evC (evCall S.X S.F n) base n c en h = some (ex, en', h') ∧ Q ex en' h'
end

section
variable {S : Fns} {base : Nat}

theorem WpF.mono {f : FuncId} {args : List V} {h : Heap} {Q R : V → Heap → Prop} (hw : WpF S base f args h Q) (hq : ∀ v h', Q v h' → R v h') : WpF S base f args h R :=
  let ⟨n, v, h', e, q⟩ := hw; ⟨n, v, h', e, hq _ _ q⟩
theorem WpC.mono {c : ACode} {en : Env} {h : Heap} {Q R : Ex → Env → Heap → Prop} (hw : WpC S base c en h Q) (hq : ∀ ex en h', Q ex en h' → R ex en h') : WpC S base c en h R :=
  let ⟨n, ex, en, h', e, q⟩ := hw; ⟨n, ex, en, h', e, hq _ _ _ q⟩

theorem WpO.nil {en : Env} {h : Heap} {Q : Env → Heap → Prop} (hq : Q en h) : WpO S base [] en h Q := ⟨0, en, h, rfl, hq⟩

/-- One operation that is no call. -/
theorem WpO.op {dst : Option Nat} {op : AOp} {r : List AOper} {en : Env} {h h1 : Heap} {v : V} {Q : Env → Heap → Prop} (hs : step base en h op = some (v, h1)) (hn : WpO S base r (en.put dst v) h1 Q) :
    WpO S base (⟨dst, op, none, []⟩ :: r) en h Q := by
  obtain ⟨n, en', h', e, q⟩ := hn
  refine ⟨n, en', h', ?_, q⟩
  rw [evOps_cons]
  have : evVal (evCall S.X S.F n) base ⟨dst, op, none, []⟩ en h = some (v, h1) := by
    simp only [evVal, evOper, offOk, List.all_nil, if_true, evOp]
    split
    · simp [step] at hs
    · exact hs
  rw [this]
  exact e

theorem WpO.call {dst : Option Nat} {f : Opd} {args : List Opd} {r : List AOper} {en : Env} {h : Heap} {k : FuncId} {vs : List V} {Q : Env → Heap → Prop} (ht : target (f.get en) (getsO en args) = some (k, vs))
    (hw : WpF S base k vs h fun v h1 => WpO S base r (en.put dst v) h1 Q) : WpO S base (⟨dst, .call f args, none, []⟩ :: r) en h Q := by
  obtain ⟨n, v, h1, e1, m, en', h', e2, q⟩ := hw
  refine ⟨max n m, en', h', ?_, q⟩
  rw [evOps_cons]
  have : evVal (evCall S.X S.F (max n m)) base ⟨dst, .call f args, none, []⟩ en h = some (v, h1) := by
    simp only [evVal, evOper, offOk, List.all_nil, if_true, evOp, ht]
    exact evCall_mono (Nat.le_max_left n m) _ _ _ _ _ e1
  rw [this]
  exact evOps_mono (evCall_mono (Nat.le_max_right n m)) e2

/-- A read that keeps off what is written. -/
theorem WpO.keep {dst : Option Nat} {op : AOp} {g : Option (Nat × Bool)} {off : List Nat} {r : List AOper} {en : Env} {h : Heap} {Q : Env → Heap → Prop} (ho : offOk en ⟨dst, op, g, off⟩ = true) (hw : WpO S base (⟨dst, op, g, []⟩ :: r) en h Q) :
    WpO S base (⟨dst, op, g, off⟩ :: r) en h Q := by
  obtain ⟨n, en', h', e, q⟩ := hw
  refine ⟨n, en', h', ?_, q⟩
  rw [evOps_cons] at e ⊢
  have hev : evOper (evCall S.X S.F n) base en h ⟨dst, op, g, off⟩ = evOper (evCall S.X S.F n) base en h ⟨dst, op, g, []⟩ := by
    unfold evOper
    rw [ho]
    rfl
  have : evVal (evCall S.X S.F n) base ⟨dst, op, g, off⟩ en h = evVal (evCall S.X S.F n) base ⟨dst, op, g, []⟩ en h := by
    simp only [evVal, hev]
  rw [this]
  exact e

/-- A guard that lets through. -/
theorem WpO.take {dst : Option Nat} {op : AOp} {g : Nat} {want : Bool} {r : List AOper} {en : Env} {h : Heap} {Q : Env → Heap → Prop} (hg : en g = .bool want) (hw : WpO S base (⟨dst, op, none, []⟩ :: r) en h Q) :
    WpO S base (⟨dst, op, some (g, want), []⟩ :: r) en h Q := by
  obtain ⟨n, en', h', e, q⟩ := hw
  refine ⟨n, en', h', ?_, q⟩
  rw [evOps_cons] at e ⊢
  have : evVal (evCall S.X S.F n) base ⟨dst, op, some (g, want), []⟩ en h = evVal (evCall S.X S.F n) base ⟨dst, op, none, []⟩ en h := by
    simp only [evVal, hg, gOk, beq_self_eq_true]
    rfl
  rw [this]
  exact e

/-- A guard that does not. -/
theorem WpO.leave {dst : Option Nat} {op : AOp} {g : Nat} {t want : Bool} {r : List AOper} {en : Env} {h : Heap} {Q : Env → Heap → Prop} (hg : en g = .bool t) (hne : t ≠ want) (hw : WpO S base r (en.put dst (.tup [])) h Q) :
    WpO S base (⟨dst, op, some (g, want), []⟩ :: r) en h Q := by
  obtain ⟨n, en', h', e, q⟩ := hw
  refine ⟨n, en', h', ?_, q⟩
  rw [evOps_cons]
  have : evVal (evCall S.X S.F n) base ⟨dst, op, some (g, want), []⟩ en h = some (.tup [], h) := by
    have : (t == want) = false := by simpa using hne
    simp only [evVal, hg, gOk, this]
  rw [this]
  exact e

theorem WpC.skip {en : Env} {h : Heap} {Q : Ex → Env → Heap → Prop} (hq : Q .normal en h) : WpC S base .skip en h Q := ⟨0, _, _, _, rfl, hq⟩
theorem WpC.ret {en : Env} {h : Heap} {Q : Ex → Env → Heap → Prop} (hq : Q .ret en h) : WpC S base .ret en h Q := ⟨0, _, _, _, rfl, hq⟩
theorem WpC.exit {id : Nat} {en : Env} {h : Heap} {Q : Ex → Env → Heap → Prop} (hq : Q (.exit id) en h) : WpC S base (.exit id) en h Q := ⟨0, _, _, _, rfl, hq⟩

theorem WpC.region {ops : List AOper} {en : Env} {h : Heap} {Q : Ex → Env → Heap → Prop} (hw : WpO S base ops en h (Q .normal)) : WpC S base (.region ops) en h Q := by
  obtain ⟨n, en', h', e, q⟩ := hw
  exact ⟨n, .normal, en', h', by simp only [evC, e], q⟩

/-- How a code goes on behind another. -/
def thenQ (K : Env → Heap → Prop) (Q : Ex → Env → Heap → Prop) : Ex → Env → Heap → Prop
  | .normal => K
  | ex => Q ex

theorem WpC.seq {a b : ACode} {en : Env} {h : Heap} {Q : Ex → Env → Heap → Prop} (hw : WpC S base a en h (thenQ (fun en h => WpC S base b en h Q) Q)) : WpC S base (.seq a b) en h Q := by
  obtain ⟨n, ex, en1, h1, e1, q⟩ := hw
  cases ex with
  | normal =>
    obtain ⟨m, ex, en', h', e2, q⟩ := q
    refine ⟨max n m, ex, en', h', ?_, q⟩
    simp only [evC, evC_mono (evCall_mono (Nat.le_max_left n m)) (Nat.le_max_left n m) e1]
    exact evC_mono (evCall_mono (Nat.le_max_right n m)) (Nat.le_max_right n m) e2
  | exit id => exact ⟨n, _, _, _, by simp only [evC, e1], q⟩
  | ret => exact ⟨n, _, _, _, by simp only [evC, e1], q⟩

theorem WpC.cond {c : Opd} {a b : ACode} {en : Env} {h : Heap} {t : Bool} {Q : Ex → Env → Heap → Prop} (hc : c.get en = .bool t) (hw : if t then WpC S base a en h Q else WpC S base b en h Q) : WpC S base (.cond c a b) en h Q := by
  cases t with
  | true =>
    obtain ⟨n, ex, en', h', e, q⟩ := hw
    exact ⟨n, ex, en', h', by simp only [evC, hc, if_true]; exact e, q⟩
  | false =>
    simp only [Bool.false_eq_true, if_false] at hw
    obtain ⟨n, ex, en', h', e, q⟩ := hw
    exact ⟨n, ex, en', h', by simp only [evC, hc, Bool.false_eq_true, if_false]; exact e, q⟩

/-- What a block makes of an exit. -/
def blockQ (id : Nat) (Q : Ex → Env → Heap → Prop) : Ex → Env → Heap → Prop
  | .exit i => if i = id then Q .normal else Q (.exit i)
  | ex => Q ex

theorem WpC.block {id : Nat} {c : ACode} {en : Env} {h : Heap} {Q : Ex → Env → Heap → Prop} (hw : WpC S base c en h (blockQ id Q)) : WpC S base (.block id c) en h Q := by
  obtain ⟨n, ex, en', h', e, q⟩ := hw
  cases ex with
  | normal => exact ⟨n, _, _, _, by simp only [evC, e], q⟩
  | ret => exact ⟨n, _, _, _, by simp only [evC, e], q⟩
  | exit i =>
    simp only [blockQ] at q
    by_cases hi : i = id
    · rw [if_pos hi] at q
      exact ⟨n, .normal, _, _, by simp only [evC, e, if_pos hi], q⟩
    · rw [if_neg hi] at q
      exact ⟨n, .exit i, _, _, by simp only [evC, e, if_neg hi], q⟩

/-- One round of a loop, and the rest. -/
theorem WpC.loop {c : ACode} {en : Env} {h : Heap} {Q : Ex → Env → Heap → Prop} (hw : WpC S base c en h (thenQ (fun en h => WpC S base (.loop c) en h Q) Q)) : WpC S base (.loop c) en h Q := by
  obtain ⟨n, ex, en1, h1, e1, q⟩ := hw
  cases ex with
  | normal =>
    obtain ⟨m, ex, en', h', e2, q⟩ := q
    refine ⟨max n m + 1, ex, en', h', ?_, q⟩
    simp only [evC, iter] at e2 ⊢
    rw [evC_mono (evCall_mono (Nat.le_succ_of_le (Nat.le_max_left n m))) (Nat.le_succ_of_le (Nat.le_max_left n m)) e1]
    simp only
    exact iter_mono (fun _ _ _ e => evC_mono (evCall_mono (Nat.le_succ_of_le (Nat.le_max_right n m))) (Nat.le_succ_of_le (Nat.le_max_right n m)) e) (Nat.le_max_right n m) e2
  | exit id => exact ⟨n + 1, _, _, _, by simp only [evC, iter]; rw [evC_mono (evCall_mono (Nat.le_succ n)) (Nat.le_succ n) e1], q⟩
  | ret => exact ⟨n + 1, _, _, _, by simp only [evC, iter]; rw [evC_mono (evCall_mono (Nat.le_succ n)) (Nat.le_succ n) e1], q⟩

/-- A loop, by an invariant that a measure goes with. -/
theorem WpC.loopInv {c : ACode} {Q : Ex → Env → Heap → Prop} (I : Nat → Env → Heap → Prop) (hstep : ∀ k en h, I k en h → WpC S base c en h (thenQ (fun en' h' => ∃ j, j < k ∧ I j en' h') Q)) :
    ∀ k en h, I k en h → WpC S base (.loop c) en h Q := by
  intro k
  induction k using Nat.strongRecOn with
  | _ k ih =>
    intro en h hi
    refine WpC.loop ((hstep k en h hi).mono fun ex en' h' q => ?_)
    cases ex with
    | normal => obtain ⟨j, hj, hi'⟩ := q; exact ih j hj en' h' hi'
    | exit id => exact q
    | ret => exact q

/-- A call of a function whose body is known, and whose blocks stay. -/
theorem WpF.body {f : FuncId} {A : AFunc} {args : List V} {h : Heap} {Q : V → Heap → Prop} (hX : S.X f = none) (hF : S.F f = some A) (hp : A.pure = false) (hl : args.length = A.nparams)
    (hw : WpC S base A.body (fun t => args.getD t .undef) h fun ex en h' => (∀ i, ex ≠ .exit i) ∧ ∃ rs, evRess en h' A.results = some rs ∧ Q (oneOrTup rs) h') : WpF S base f args h Q := by
  obtain ⟨n, ex, en, h', e, hno, rs, hr, q⟩ := hw
  refine ⟨n + 1, oneOrTup rs, h', ?_, q⟩
  simp only [evCall, hX, hF, evFunc, hp, Bool.false_eq_true, if_false, if_pos hl, e]
  cases ex with
  | exit i => exact absurd rfl (hno i)
  | normal => simp [hr]
  | ret => simp [hr]

/-- A call of a function whose body is known, and whose own blocks are gone behind it. -/
theorem WpF.bodyPure {f : FuncId} {A : AFunc} {args : List V} {h : Heap} {Q : V → Heap → Prop} (hX : S.X f = none) (hF : S.F f = some A) (hp : A.pure = true) (hl : args.length = A.nparams)
    (hw : WpC S h.length A.body (fun t => args.getD t .undef) h fun ex en h' => (∀ i, ex ≠ .exit i) ∧ ∃ rs, evRess en h' A.results = some rs ∧ ∃ n v, freezeV h' h.length n (oneOrTup rs) = some v ∧ Q v (h'.take h.length)) : WpF S base f args h Q := by
  obtain ⟨n, ex, en, h', e, hno, rs, hr, m, v, hv, q⟩ := hw
  refine ⟨max n m + 1, v, h'.take h.length, ?_, q⟩
  simp only [evCall, hX, hF, evFunc, hp, if_true, if_pos hl, evC_mono (evCall_mono (Nat.le_max_left n m)) (Nat.le_max_left n m) e]
  cases ex with
  | exit i => exact absurd rfl (hno i)
  | normal => simp [hr, freezeV_mono (Nat.le_max_right n m) hv]
  | ret => simp [hr, freezeV_mono (Nat.le_max_right n m) hv]

/-- A call of a function that is known by a contract. -/
theorem WpF.ext {f : FuncId} {g : Nat → List V → Heap → Option (V × Heap)} {args : List V} {h h' : Heap} {v : V} {Q : V → Heap → Prop} (hX : S.X f = some g) (he : g base args h = some (v, h')) (hq : Q v h') : WpF S base f args h Q :=
  ⟨1, v, h', by simp only [evCall, hX, he], hq⟩

end
end Go.Am
end
section
/- Am: the rules of AmWp as equivalences, for simp. -/
namespace Go.Am

/-- What an answer is good for. -/
def okQ (x : Option (V × Heap)) (Q : V → Heap → Prop) : Prop :=
  match x with
  | some (v, h) => Q v h
  | none => False

def boolQ (v : V) (Q : Bool → Prop) : Prop :=
  match v with
  | .sc (.bool t) => Q t
  | _ => False

@[simp] theorem okQ_some (v : V) (h : Heap) (Q : V → Heap → Prop) : okQ (some (v, h)) Q = Q v h := rfl
@[simp] theorem okQ_none (Q : V → Heap → Prop) : okQ none Q = False := rfl
@[simp] theorem boolQ_bool (t : Bool) (Q : Bool → Prop) : boolQ (.sc (.bool t)) Q = Q t := rfl

section
variable {S : Fns} {base : Nat}

theorem WpO_nil {en : Env} {h : Heap} {Q : Env → Heap → Prop} : WpO S base [] en h Q ↔ Q en h := by
  constructor
  · rintro ⟨n, en', h', e, q⟩
    simp only [evOps, Option.some.injEq, Prod.mk.injEq] at e
    obtain ⟨rfl, rfl⟩ := e
    exact q
  · exact WpO.nil

theorem WpO_op {dst : Option Nat} {op : AOp} {r : List AOper} {en : Env} {h : Heap} {Q : Env → Heap → Prop} (hn : ∀ f a, op ≠ .call f a) :
    WpO S base (⟨dst, op, none, []⟩ :: r) en h Q ↔ okQ (step base en h op) fun v h1 => WpO S base r (en.put dst v) h1 Q := by
  constructor
  · rintro ⟨n, en', h', e, q⟩
    rw [evOps_cons] at e
    have hv : evVal (evCall S.X S.F n) base ⟨dst, op, none, []⟩ en h = step base en h op := by
      simp only [evVal, evOper, offOk, List.all_nil, if_true, evOp_noCall hn]
    rw [hv, Option.bind_eq_some_iff] at e
    obtain ⟨⟨v, h1⟩, e1, e2⟩ := e
    rw [e1]
    exact ⟨n, en', h', e2, q⟩
  · intro hq
    cases hs : step base en h op with
    | none => rw [hs] at hq; exact hq.elim
    | some p =>
      obtain ⟨v, h1⟩ := p
      rw [hs] at hq
      exact WpO.op hs hq

theorem WpO_guard {dst : Option Nat} {op : AOp} {g : Nat} {want : Bool} {r : List AOper} {en : Env} {h : Heap} {Q : Env → Heap → Prop} :
    WpO S base (⟨dst, op, some (g, want), []⟩ :: r) en h Q ↔ (match gOk (en g) want with
      | some true => WpO S base (⟨dst, op, none, []⟩ :: r) en h Q
      | some false => WpO S base r (en.put dst (.tup [])) h Q
      | none => False) := by
  constructor
  · rintro ⟨n, en', h', e, q⟩
    rw [evOps_cons, Option.bind_eq_some_iff] at e
    obtain ⟨p, e1, e2⟩ := e
    cases hen : gOk (en g) want with
    | none => simp [evVal, hen] at e1
    | some t =>
      simp only [evVal, hen] at e1
      cases t with
      | true =>
        refine ⟨n, en', h', ?_, q⟩
        rw [evOps_cons]
        have : evVal (evCall S.X S.F n) base ⟨dst, op, none, []⟩ en h = some p := e1
        rw [this]
        exact e2
      | false =>
        injection e1 with e1
        subst e1
        exact ⟨n, en', h', e2, q⟩
  · intro hq
    cases hen : gOk (en g) want with
    | none => rw [hen] at hq; exact hq.elim
    | some t =>
      rw [hen] at hq
      cases t with
      | true =>
        obtain ⟨n, en', h', e, q⟩ := hq
        refine ⟨n, en', h', ?_, q⟩
        rw [evOps_cons] at e ⊢
        have : evVal (evCall S.X S.F n) base ⟨dst, op, some (g, want), []⟩ en h = evVal (evCall S.X S.F n) base ⟨dst, op, none, []⟩ en h := by
          simp only [evVal, hen]
          rfl
        rw [this]
        exact e
      | false =>
        obtain ⟨n, en', h', e, q⟩ := hq
        refine ⟨n, en', h', ?_, q⟩
        rw [evOps_cons]
        have : evVal (evCall S.X S.F n) base ⟨dst, op, some (g, want), []⟩ en h = some (.tup [], h) := by
          simp only [evVal, hen]
        rw [this]
        exact e

/-- Calls. -/
def callQ (S : Fns) (base : Nat) (t : Option (FuncId × List V)) (h : Heap) (Q : V → Heap → Prop) : Prop :=
  match t with
  | some (k, vs) => WpF S base k vs h Q
  | none => False

@[simp] theorem callQ_some (S : Fns) (base : Nat) (k : FuncId) (vs : List V) (h : Heap) (Q : V → Heap → Prop) : callQ S base (some (k, vs)) h Q = WpF S base k vs h Q := rfl

theorem WpO_call {dst : Option Nat} {f : Opd} {args : List Opd} {r : List AOper} {en : Env} {h : Heap} {Q : Env → Heap → Prop} :
    WpO S base (⟨dst, .call f args, none, []⟩ :: r) en h Q ↔ callQ S base (target (f.get en) (getsO en args)) h fun v h1 => WpO S base r (en.put dst v) h1 Q := by
  constructor
  · rintro ⟨n, en', h', e, q⟩
    rw [evOps_cons, Option.bind_eq_some_iff] at e
    obtain ⟨⟨v, h1⟩, e1, e2⟩ := e
    have e1' := (evOper_inv (o := ⟨dst, .call f args, none, []⟩) (show evOper (evCall S.X S.F n) base en h ⟨dst, .call f args, none, []⟩ = some (v, h1) from e1)).2
    simp only [evOp] at e1'
    cases ht : target (f.get en) (getsO en args) with
    | none => rw [ht] at e1'; simp at e1'
    | some p =>
      obtain ⟨k, vs⟩ := p
      rw [ht] at e1'
      exact ⟨n, v, h1, e1', n, en', h', e2, q⟩
  · intro hq
    cases ht : target (f.get en) (getsO en args) with
    | none => rw [ht] at hq; exact hq.elim
    | some p =>
      obtain ⟨k, vs⟩ := p
      rw [ht] at hq
      exact WpO.call ht hq

theorem WpC_cond {c : Opd} {a b : ACode} {en : Env} {h : Heap} {Q : Ex → Env → Heap → Prop} (hw : boolQ (c.get en) fun t => if t then WpC S base a en h Q else WpC S base b en h Q) : WpC S base (.cond c a b) en h Q := by
  cases hen : c.get en with
  | sc x =>
    cases x with
    | bool t => rw [hen] at hw; exact WpC.cond hen hw
    | _ => rw [hen] at hw; exact hw.elim
  | _ => rw [hen] at hw; exact hw.elim
end
end Go.Am
end
section
/- Am: what abstract values and memory stand for in the machine's own memory. -/
namespace Go.Am
open Go.RowKit (Below)

structure RowLoc where
  e : Nat
  sz : Nat
  blk : Nat
  cp : Nat

/-- What ties abstract memory to the machine's: cells that are never written again ('fz'), how many blocks there are, where boxes and rows lie. Blocks below 'b0' are never written. -/
structure Tie where
  fz : Nat → Nat → Option Value
  n : Nat
  bx : Nat → Nat
  rw : Nat → Option RowLoc
  b0 : Nat

mutual
def RepV (G : Tie) : V → Value → Prop
  | .undef, _ => True
  | .sc v, r => r = v ∧ v.oneCell' = true
  | .agg cs, r => ∃ rs : Array Value, r = .agg rs ∧ RepL G cs rs.toList
  | .tup cs, r => ∃ rs : Array Value, r = .tuple rs ∧ RepL G cs rs.toList
  | .slc ex sz rows, r => ∃ a cap, r = .slice a rows.length cap ∧ rows.length ≤ cap ∧ (ex.isFull = true → cap = rows.length) ∧ (rows.all fun l => l.all ground) = true ∧
      ∃ b o, (rows ≠ [] → a = some ⟨b, o, none⟩) ∧ (ex = .lit → rows ≠ [] → G.b0 ≤ b) ∧ RepRows G sz b o rows
  | .hsl b e off len, r => b < G.n ∧ ∃ a cap, r = .slice (some a) len cap ∧ ∀ L, G.rw b = some L → e ≤ L.e ∧ (e = L.e → len ≤ cap ∧ off + cap ≤ L.cp ∧ (cap ≠ 0 → a = ⟨L.blk, off * L.sz, none⟩))
  | .ptr b off, r => b < G.n ∧ r = .pointer (some ⟨G.bx b, off, none⟩)
  | .rptr b e i off, r => b < G.n ∧ ∃ a, r = .pointer (some a) ∧ ∀ L, G.rw b = some L → e ≤ L.e ∧ (e = L.e → a = ⟨L.blk, i * L.sz + off, none⟩)
  | .eptr cs off, r => ∃ b o, r = .pointer (some ⟨b, o + off, none⟩) ∧ cs.all ground = true ∧ RepF G b o cs
  | .fn f a c, r => ∃ ra rc : Array Value, r = .func f ra rc ∧ RepL G a ra.toList ∧ RepL G c rc.toList
  | .ifc t v, r => ∃ rv, r = .iface t rv ∧ RepV G v rv
  | .mp b, r => b < G.n ∧ r = .map (some (G.bx b))
  | .opq, r => r.oneCell' = true
def RepL (G : Tie) : List V → List Value → Prop
  | [], rs => rs = []
  | c :: cs, rs => ∃ r rest, rs = r :: rest ∧ RepV G c r ∧ RepL G cs rest
def RepF (G : Tie) (b : Nat) : Nat → List V → Prop
  | _, [] => True
  | o, c :: cs => (∃ v, G.fz b o = some v ∧ RepV G c v) ∧ RepF G b (o + 1) cs
def RepRows (G : Tie) (sz b : Nat) : Nat → List (List V) → Prop
  | _, [] => True
  | o, cs :: r => cs.length = sz ∧ RepF G b o cs ∧ RepRows G sz b (o + sz) r
end

/-- G' is G, later. -/
structure Ext (G G' : Tie) : Prop where
  fz : ∀ b o v, G.fz b o = some v → G'.fz b o = some v
  n : G.n ≤ G'.n
  bx : ∀ b, b < G.n → G'.bx b = G.bx b
  rw : ∀ b, b < G.n → ∀ L', G'.rw b = some L' → ∃ L, G.rw b = some L ∧ L.e ≤ L'.e ∧ (L.e = L'.e → L' = L)
  b0 : G'.b0 = G.b0

theorem Ext.refl (G : Tie) : Ext G G := ⟨fun _ _ _ h => h, Nat.le_refl _, fun _ _ => rfl, fun _ _ L h => ⟨L, h, Nat.le_refl _, fun _ => rfl⟩, rfl⟩

theorem Ext.trans {A B C : Tie} (h : Ext A B) (k : Ext B C) : Ext A C where
  fz b o v hv := k.fz _ _ _ (h.fz _ _ _ hv)
  n := Nat.le_trans h.n k.n
  bx b hb := (k.bx b (Nat.lt_of_lt_of_le hb h.n)).trans (h.bx b hb)
  rw b hb L' hL := by
    obtain ⟨L1, h1, l1, e1⟩ := k.rw b (Nat.lt_of_lt_of_le hb h.n) L' hL
    obtain ⟨L2, h2, l2, e2⟩ := h.rw b hb L1 h1
    refine ⟨L2, h2, Nat.le_trans l2 l1, fun e => ?_⟩
    have hA : L1.e = L'.e := by omega
    have hB : L2.e = L1.e := by omega
    rw [e1 hA, e2 hB]
  b0 := k.b0.trans h.b0

mutual
theorem RepV.ext {G G' : Tie} (x : Ext G G') : ∀ {v : V} {r : Value}, RepV G v r → RepV G' v r
  | .undef, _, _ => by simp [RepV]
  | .sc v, r, h => by simpa [RepV] using h
  | .agg cs, r, h => by
    simp only [RepV] at h ⊢
    obtain ⟨rs, e, h⟩ := h
    exact ⟨rs, e, RepL.ext x h⟩
  | .tup cs, r, h => by
    simp only [RepV] at h ⊢
    obtain ⟨rs, e, h⟩ := h
    exact ⟨rs, e, RepL.ext x h⟩
  | .slc ex sz rows, r, h => by
    simp only [RepV] at h ⊢
    obtain ⟨a, cap, e, hl, he, hg, b, o, ha, hb, h⟩ := h
    exact ⟨a, cap, e, hl, he, hg, b, o, ha, by rw [x.b0]; exact hb, RepRows.ext x h⟩
  | .hsl b e off len, r, h => by
    simp only [RepV] at h ⊢
    obtain ⟨hb, a, cap, hr, h⟩ := h
    refine ⟨Nat.lt_of_lt_of_le hb x.n, a, cap, hr, fun L' hL' => ?_⟩
    obtain ⟨L, hL, hle, heq⟩ := x.rw b hb L' hL'
    obtain ⟨h1, h2⟩ := h L hL
    refine ⟨Nat.le_trans h1 hle, fun he => ?_⟩
    have : L.e = L'.e := by omega
    rw [heq this]
    exact h2 (by omega)
  | .ptr b off, r, h => by
    simp only [RepV] at h ⊢
    exact ⟨Nat.lt_of_lt_of_le h.1 x.n, by rw [x.bx b h.1]; exact h.2⟩
  | .rptr b e i off, r, h => by
    simp only [RepV] at h ⊢
    obtain ⟨hb, a, hr, h⟩ := h
    refine ⟨Nat.lt_of_lt_of_le hb x.n, a, hr, fun L' hL' => ?_⟩
    obtain ⟨L, hL, hle, heq⟩ := x.rw b hb L' hL'
    obtain ⟨h1, h2⟩ := h L hL
    refine ⟨Nat.le_trans h1 hle, fun he => ?_⟩
    have : L.e = L'.e := by omega
    rw [heq this]
    exact h2 (by omega)
  | .eptr cs off, r, h => by
    simp only [RepV] at h ⊢
    obtain ⟨b, o, hr, hg, h⟩ := h
    exact ⟨b, o, hr, hg, RepF.ext x h⟩
  | .fn f a c, r, h => by
    simp only [RepV] at h ⊢
    obtain ⟨ra, rc, hr, h1, h2⟩ := h
    exact ⟨ra, rc, hr, RepL.ext x h1, RepL.ext x h2⟩
  | .ifc t v, r, h => by
    simp only [RepV] at h ⊢
    obtain ⟨rv, hr, h⟩ := h
    exact ⟨rv, hr, RepV.ext x h⟩
  | .mp b, r, h => by
    simp only [RepV] at h ⊢
    exact ⟨Nat.lt_of_lt_of_le h.1 x.n, by rw [x.bx b h.1]; exact h.2⟩
  | .opq, r, h => by
    simp only [RepV] at h ⊢
    exact h
theorem RepL.ext {G G' : Tie} (x : Ext G G') : ∀ {v : List V} {r : List Value}, RepL G v r → RepL G' v r
  | [], r, h => by simpa [RepL] using h
  | c :: cs, r, h => by
    simp only [RepL] at h ⊢
    obtain ⟨a, rest, e, h1, h2⟩ := h
    exact ⟨a, rest, e, RepV.ext x h1, RepL.ext x h2⟩
theorem RepF.ext {G G' : Tie} (x : Ext G G') : ∀ {b o : Nat} {v : List V}, RepF G b o v → RepF G' b o v
  | _, _, [], _ => by simp [RepF]
  | b, o, c :: cs, h => by
    simp only [RepF] at h ⊢
    obtain ⟨⟨v, h1, h2⟩, h3⟩ := h
    exact ⟨⟨v, x.fz _ _ _ h1, RepV.ext x h2⟩, RepF.ext x h3⟩
theorem RepRows.ext {G G' : Tie} (x : Ext G G') : ∀ {sz b o : Nat} {v : List (List V)}, RepRows G sz b o v → RepRows G' sz b o v
  | _, _, _, [], _ => by simp [RepRows]
  | sz, b, o, c :: cs, h => by
    simp only [RepRows] at h ⊢
    exact ⟨h.1, RepF.ext x h.2.1, RepRows.ext x h.2.2⟩
end

/-! ### Lists of values -/

theorem RepL.length {G : Tie} : ∀ {cs : List V} {rs : List Value}, RepL G cs rs → rs.length = cs.length
  | [], _, h => by simp only [RepL] at h; simp [h]
  | _ :: cs, _, h => by
    simp only [RepL] at h
    obtain ⟨a, rest, rfl, _, h2⟩ := h
    simp [RepL.length h2]

theorem RepL.get {G : Tie} : ∀ {cs : List V} {rs : List Value}, RepL G cs rs → ∀ {i : Nat} {c : V}, cs[i]? = some c → ∃ r, rs[i]? = some r ∧ RepV G c r
  | [], _, _, i, c, e => by simp at e
  | x :: cs, _, h, i, c, e => by
    simp only [RepL] at h
    obtain ⟨a, rest, rfl, h1, h2⟩ := h
    cases i with
    | zero => simp at e; subst e; exact ⟨a, by simp, h1⟩
    | succ i => simpa using RepL.get h2 (i := i) (by simpa using e)

theorem RepL.of_get {G : Tie} : ∀ {cs : List V} {rs : List Value}, rs.length = cs.length → (∀ (i : Nat) (c : V), cs[i]? = some c → ∃ r, rs[i]? = some r ∧ RepV G c r) → RepL G cs rs
  | [], rs, hl, _ => by simp only [RepL]; simpa using hl
  | c :: cs, [], hl, _ => by simp at hl
  | c :: cs, r :: rs, hl, h => by
    simp only [RepL]
    refine ⟨r, rs, rfl, ?_, RepL.of_get (by simpa using hl) fun i c' e => ?_⟩
    · obtain ⟨r', e', h'⟩ := h 0 c (by simp)
      simp at e'
      exact e' ▸ h'
    · simpa using h (i + 1) c' (by simpa using e)

theorem RepL.append {G : Tie} {cs ds : List V} {rs ss : List Value} (h : RepL G cs rs) (k : RepL G ds ss) : RepL G (cs ++ ds) (rs ++ ss) := by
  induction cs generalizing rs with
  | nil => simp only [RepL] at h; subst h; simpa using k
  | cons c cs ih =>
    simp only [RepL] at h
    obtain ⟨a, rest, rfl, h1, h2⟩ := h
    simp only [List.cons_append, RepL]
    exact ⟨a, rest ++ ss, rfl, h1, ih h2⟩

theorem RepL.take {G : Tie} {cs : List V} {rs : List Value} (h : RepL G cs rs) (k : Nat) : RepL G (cs.take k) (rs.take k) :=
  RepL.of_get (by simp [h.length]) fun i c e => by
    rw [List.getElem?_take] at e ⊢
    split at e
    · rename_i hi
      rw [if_pos hi]
      exact h.get e
    · simp at e

theorem RepL.drop {G : Tie} {cs : List V} {rs : List Value} (h : RepL G cs rs) (k : Nat) : RepL G (cs.drop k) (rs.drop k) :=
  RepL.of_get (by simp [h.length]) fun i c e => by
    rw [List.getElem?_drop] at e ⊢
    exact h.get e

theorem RepF.get {G : Tie} : ∀ {b o : Nat} {cs : List V}, RepF G b o cs → ∀ {i : Nat} {c : V}, cs[i]? = some c → ∃ r, G.fz b (o + i) = some r ∧ RepV G c r
  | _, _, [], _, i, c, e => by simp at e
  | b, o, x :: cs, h, i, c, e => by
    simp only [RepF] at h
    cases i with
    | zero => simp at e; subst e; exact h.1
    | succ i =>
      have := RepF.get h.2 (i := i) (by simpa using e)
      rwa [show o + 1 + i = o + (i + 1) by omega] at this

theorem RepF.of_get {G : Tie} : ∀ {b o : Nat} {cs : List V}, (∀ (i : Nat) (c : V), cs[i]? = some c → ∃ r, G.fz b (o + i) = some r ∧ RepV G c r) → RepF G b o cs
  | _, _, [], _ => by simp [RepF]
  | b, o, x :: cs, h => by
    simp only [RepF]
    refine ⟨by simpa using h 0 x (by simp), RepF.of_get fun i c e => ?_⟩
    have := h (i + 1) c (by simpa using e)
    rwa [show o + (i + 1) = o + 1 + i by omega] at this

theorem RepRows.get {G : Tie} {sz b : Nat} : ∀ {o : Nat} {rows : List (List V)}, RepRows G sz b o rows → ∀ {i : Nat} {cs : List V}, rows[i]? = some cs → cs.length = sz ∧ RepF G b (o + i * sz) cs
  | _, [], _, i, c, e => by simp at e
  | o, x :: rows, h, i, cs, e => by
    simp only [RepRows] at h
    cases i with
    | zero => simp at e; subst e; simpa using ⟨h.1, h.2.1⟩
    | succ i =>
      have := RepRows.get h.2.2 (i := i) (by simpa using e)
      rwa [show o + sz + i * sz = o + (i + 1) * sz by rw [Nat.add_mul]; omega] at this

theorem RepRows.of_get {G : Tie} {sz b : Nat} : ∀ {o : Nat} {rows : List (List V)}, (∀ (i : Nat) (cs : List V), rows[i]? = some cs → cs.length = sz ∧ RepF G b (o + i * sz) cs) → RepRows G sz b o rows
  | _, [], _ => by simp [RepRows]
  | o, x :: rows, h => by
    simp only [RepRows]
    have h0 := h 0 x (by simp)
    refine ⟨h0.1, by simpa using h0.2, RepRows.of_get fun i cs e => ?_⟩
    have := h (i + 1) cs (by simpa using e)
    rwa [show o + (i + 1) * sz = o + sz + i * sz by rw [Nat.add_mul]; omega] at this

theorem RepV.one {G : Tie} {v : V} {r : Value} (h : RepV G v r) (h1 : oneCell v = true) : r.oneCell' = true := by
  cases v <;> simp only [oneCell, RepV, Bool.false_eq_true] at h h1
  · exact h.1 ▸ h.2
  · obtain ⟨a, cap, rfl, _⟩ := h; rfl
  · obtain ⟨_, a, cap, rfl, _⟩ := h; rfl
  · obtain ⟨_, rfl⟩ := h; rfl
  · obtain ⟨_, a, rfl, _⟩ := h; rfl
  · obtain ⟨b, o, rfl, _⟩ := h; rfl
  · obtain ⟨ra, rc, rfl, _⟩ := h; rfl
  · obtain ⟨rv, rfl, _⟩ := h; rfl
  · obtain ⟨_, rfl⟩ := h; rfl
  · exact h

/-- A value's cells stand for its value's cells. -/
theorem RepV.cells {G : Tie} {v : V} {r : Value} (h : RepV G v r) (hu : v ≠ .undef) : RepL G v.cells r.cells.toList := by
  cases v <;> simp only [RepV, V.cells] at h ⊢
  · exact absurd rfl hu
  · obtain ⟨rfl, h1⟩ := h
    cases r <;> simp [Value.oneCell'] at h1 <;> simp [Value.cells, RepL, RepV, Value.oneCell']
  · obtain ⟨rs, rfl, h⟩ := h; simpa [Value.cells] using h
  · obtain ⟨rs, rfl, h⟩ := h; simp [Value.cells, RepL, RepV]; exact h
  · obtain ⟨a, cap, rfl, h⟩ := h
    simp only [Value.cells, RepL]
    exact ⟨_, [], rfl, by simp only [RepV]; exact ⟨a, cap, rfl, h⟩, rfl⟩
  · obtain ⟨hb, a, cap, rfl, h⟩ := h
    simp only [Value.cells, RepL]
    exact ⟨_, [], rfl, by simp only [RepV]; exact ⟨hb, a, cap, rfl, h⟩, rfl⟩
  · obtain ⟨hb, rfl⟩ := h
    simp only [Value.cells, RepL]
    exact ⟨_, [], rfl, by simp [RepV, hb], rfl⟩
  · obtain ⟨hb, a, rfl, h⟩ := h
    simp only [Value.cells, RepL]
    exact ⟨_, [], rfl, by simp only [RepV]; exact ⟨hb, a, rfl, h⟩, rfl⟩
  · obtain ⟨b, o, rfl, h⟩ := h
    simp only [Value.cells, RepL]
    exact ⟨_, [], rfl, by simp only [RepV]; exact ⟨b, o, rfl, h⟩, rfl⟩
  · obtain ⟨ra, rc, rfl, h⟩ := h
    simp only [Value.cells, RepL]
    exact ⟨_, [], rfl, by simp only [RepV]; exact ⟨ra, rc, rfl, h⟩, rfl⟩
  · obtain ⟨rv, rfl, h⟩ := h
    simp only [Value.cells, RepL]
    exact ⟨_, [], rfl, by simp only [RepV]; exact ⟨rv, rfl, h⟩, rfl⟩
  · obtain ⟨hb, rfl⟩ := h
    simp only [Value.cells, RepL]
    exact ⟨_, [], rfl, by simp [RepV, hb], rfl⟩
  · cases r <;> simp [Value.oneCell'] at h <;> simp [Value.cells, RepL, RepV, Value.oneCell']

/-! ### Memory -/

/-- The machine's block of an abstract block. -/
def Tie.real (G : Tie) (h : Heap) (b : Nat) : Option Nat :=
  match h[b]? with
  | some (.box ..) => some (G.bx b)
  | some (.row ..) => (G.rw b).map (·.blk)
  | some (.mmap _) => some (G.bx b)
  | _ => none

/-- The entries of a map. -/
def RepM (G : Tie) : List (Value × V) → List MapEntry → Prop
  | [], l => l = []
  | e :: es, l => ∃ x r, l = x :: r ∧ x.key = e.1 ∧ RepV G e.2 x.val ∧ RepM G es r

theorem RepM.ext {G G' : Tie} (x : Ext G G') : ∀ {es : List (Value × V)} {l : List MapEntry}, RepM G es l → RepM G' es l
  | [], l, h => h
  | e :: es, l, h => by
    simp only [RepM] at h ⊢
    obtain ⟨y, r, e1, h1, h2, h3⟩ := h
    exact ⟨y, r, e1, h1, h2.ext x, RepM.ext x h3⟩

theorem RepM.length {G : Tie} : ∀ {es : List (Value × V)} {l : List MapEntry}, RepM G es l → l.length = es.length
  | [], l, h => by simp only [RepM] at h; simp [h]
  | e :: es, l, h => by
    simp only [RepM] at h
    obtain ⟨y, r, rfl, h1, h2, h3⟩ := h
    simp [h3.length]

theorem RepM.snoc {G : Tie} {e : Value × V} {x : MapEntry} (hk : x.key = e.1) (hv : RepV G e.2 x.val) : ∀ {es : List (Value × V)} {l : List MapEntry}, RepM G es l → RepM G (es ++ [e]) (l ++ [x])
  | [], l, h => by
    simp only [RepM] at h
    subst h
    exact ⟨x, [], rfl, hk, hv, rfl⟩
  | e' :: es, l, h => by
    simp only [RepM] at h
    obtain ⟨y, r, rfl, h1, h2, h3⟩ := h
    exact ⟨y, r ++ [x], rfl, h1, h2, RepM.snoc hk hv h3⟩

theorem RepM.set {G : Tie} {e : Value × V} {x : MapEntry} (hk : x.key = e.1) (hv : RepV G e.2 x.val) : ∀ {es : List (Value × V)} {l : List MapEntry} {i : Nat}, RepM G es l → RepM G (es.set i e) (l.set i x)
  | [], l, i, h => by simp only [RepM] at h; subst h; simp [RepM]
  | e' :: es, l, i, h => by
    simp only [RepM] at h
    obtain ⟨y, r, rfl, h1, h2, h3⟩ := h
    cases i with
    | zero => exact ⟨x, r, rfl, hk, hv, h3⟩
    | succ i => exact ⟨y, r.set i x, rfl, h1, h2, RepM.set hk hv h3⟩

theorem RepM.mem {G : Tie} : ∀ {es : List (Value × V)} {l : List MapEntry} {e : Value × V}, RepM G es l → e ∈ es → ∃ x ∈ l, x.key = e.1 ∧ RepV G e.2 x.val
  | [], l, e, h, he => by simp at he
  | e' :: es, l, e, h, he => by
    simp only [RepM] at h
    obtain ⟨y, r, rfl, h1, h2, h3⟩ := h
    rcases List.mem_cons.1 he with rfl | he
    · exact ⟨y, by simp, h1, h2⟩
    · obtain ⟨x, hx, q1, q2⟩ := h3.mem he
      exact ⟨x, by simp [hx], q1, q2⟩

/-- The elements of a row, as the cells of its block. -/
def RepBlk (G : Tie) (sz : Nat) (rs : Array Value) (rows : List (List V)) : Prop :=
  ∀ i cs, rows[i]? = some cs → cs.length = sz ∧ cs.all oneCell = true ∧ ∀ j c, cs[j]? = some c → ∃ v, rs[i * sz + j]? = some v ∧ RepV G c v

structure Rel (G : Tie) (h : Heap) (w : World) : Prop where
  n : G.n = h.length
  fz : ∀ b o v, G.fz b o = some v → w.cell? ⟨b, o, none⟩ = some v
  box : ∀ b t cs, h[b]? = some (.box t cs) → cs.all oneCell = true ∧ ∃ rs, w.heap[G.bx b]? = some (.cells rs t (0, 0)) ∧ RepL G cs rs.toList
  row : ∀ b t sz e rows, h[b]? = some (.row t sz e rows) → 0 < sz ∧ ∃ L rs, G.rw b = some L ∧ L.e = e ∧ L.sz = sz ∧ rows.length ≤ L.cp ∧
    w.heap[L.blk]? = some (.cells rs t (0, 0)) ∧ rs.size = L.cp * sz ∧ RepBlk G sz rs rows
  mp : ∀ b es, h[b]? = some (.mmap es) → ∃ l clock, w.heap[G.bx b]? = some (.map l clock) ∧ RepM G es l.toList
  low : ∀ b k, G.real h b = some k → G.b0 ≤ k ∧ ∀ o, G.fz k o = none
  inj : ∀ b b' k, G.real h b = some k → G.real h b' = some k → b = b'
  hb0 : G.b0 ≤ w.heap.size

theorem RepBlk.ext {G G' : Tie} (x : Ext G G') {sz : Nat} {rs : Array Value} {rows : List (List V)} (h : RepBlk G sz rs rows) : RepBlk G' sz rs rows :=
  fun i cs e => let ⟨h1, h2, h3⟩ := h i cs e; ⟨h1, h2, fun j c ec => let ⟨v, hv, hr⟩ := h3 j c ec; ⟨v, hv, hr.ext x⟩⟩

/-- Only a new block, or no block. -/
theorem Rel.lt {G : Tie} {h : Heap} {w : World} (R : Rel G h w) {b k : Nat} (hk : G.real h b = some k) : k < w.heap.size := by
  unfold Tie.real at hk
  split at hk
  · rename_i t cs e
    obtain ⟨_, rs, hw, _⟩ := R.box b t cs e
    injection hk with hk
    subst hk
    exact (Array.getElem?_eq_some_iff.1 hw).1
  · rename_i t sz e rows eq
    obtain ⟨_, L, rs, hL, _, _, _, hw, _⟩ := R.row b t sz e rows eq
    rw [hL] at hk
    simp at hk
    subst hk
    exact (Array.getElem?_eq_some_iff.1 hw).1
  · rename_i es eq
    obtain ⟨l, clock, hw, _⟩ := R.mp b es eq
    injection hk with hk
    subst hk
    exact (Array.getElem?_eq_some_iff.1 hw).1
  · simp at hk

/-- Memory that differs in blocks that are nobody's, or new. -/
theorem Rel.world {G : Tie} {h : Heap} {w w' : World} (R : Rel G h w) (hs : w.heap.size ≤ w'.heap.size) (hw : ∀ k, k < w.heap.size → w'.heap[k]? = w.heap[k]?) : Rel G h w' where
  n := R.n
  fz b o v hv := by
    have := R.fz b o v hv
    have hb : b < w.heap.size := by
      unfold World.cell? at this
      rcases Nat.lt_or_ge b w.heap.size with hb | hb
      · exact hb
      · simp [Array.getElem?_eq_none hb] at this
    unfold World.cell? at this ⊢
    rwa [hw b hb]
  box b t cs e := by
    obtain ⟨h1, rs, h2, h3⟩ := R.box b t cs e
    exact ⟨h1, rs, by rw [hw _ (Array.getElem?_eq_some_iff.1 h2).1]; exact h2, h3⟩
  row b t sz e rows eq := by
    obtain ⟨h0, L, rs, h1, h2, h3, h4, h5, h6⟩ := R.row b t sz e rows eq
    exact ⟨h0, L, rs, h1, h2, h3, h4, by rw [hw _ (Array.getElem?_eq_some_iff.1 h5).1]; exact h5, h6⟩
  mp b es e := by
    obtain ⟨l, clock, h1, h2⟩ := R.mp b es e
    exact ⟨l, clock, by rw [hw _ (Array.getElem?_eq_some_iff.1 h1).1]; exact h1, h2⟩
  low := R.low
  inj := R.inj
  hb0 := Nat.le_trans R.hb0 hs

/-- The slots of a frame. -/
def RepEnv (G : Tie) (en : Env) (tmps : Array Value) : Prop := ∀ t, RepV G (en t) (tmps.getD t undef)

theorem RepEnv.ext {G G' : Tie} (x : Ext G G') {en : Env} {tmps : Array Value} (h : RepEnv G en tmps) : RepEnv G' en tmps := fun t => (h t).ext x

theorem RepEnv.put {G : Tie} {en : Env} {tmps : Array Value} (h : RepEnv G en tmps) {t : Nat} (ht : t < tmps.size) {v : V} {r : Value} (hv : RepV G v r) :
    RepEnv G (en.upd t v) (tmps.setIfInBounds t r) := by
  intro x
  unfold Env.upd
  by_cases e : x = t
  · subst e
    rw [if_pos rfl]
    simpa [Array.getD, ht] using hv
  · rw [if_neg e]
    have := h x
    simp only [Array.getD] at this ⊢
    split
    · rename_i hx
      have hx' : x < tmps.size := by simpa using hx
      rw [dif_pos hx'] at this
      simp only [Array.getInternal_eq_getElem] at this ⊢
      rw [Array.getElem_setIfInBounds_ne]
      · exact this
      · omega
    · rename_i hx
      rw [dif_neg (by simpa using hx)] at this
      exact this

end Go.Am
end
section
/- Am: abstract memory and the machine's memory go on together: a new block, a store, a load. -/
namespace Go.Am
open Go.RowKit (Below)

theorem below_setRow (w : World) (k B : Nat) (rs : Array Value) (h : B ≤ k) : Below B w (w.setRow k rs) :=
  ⟨rfl, rfl, rfl, by simp, fun c hc => setRow_other w k c rs (by omega)⟩

theorem below_alloc (w : World) (B : Nat) (o : Go.Obj) (h : B ≤ w.heap.size) : Below B w (w.alloc o) := (Below.refl B w).alloc h o

theorem below_drew_alloc (w : World) (B : Nat) (o : Go.Obj) (h : B ≤ w.heap.size) : Below B w (w.drew.alloc o) := ((Below.refl B w).drew).alloc h o

theorem heap_alloc_lt (w : World) (o : Go.Obj) (k : Nat) (h : k < w.heap.size) : (w.alloc o).heap[k]? = w.heap[k]? := by
  show (w.heap.push o)[k]? = _
  rw [Array.getElem?_push, if_neg (by omega)]

theorem heap_alloc_eq (w : World) (o : Go.Obj) : (w.alloc o).heap[w.heap.size]? = some o := by
  show (w.heap.push o)[w.heap.size]? = _
  simp

theorem add_none (b o n : Nat) : (⟨b, o, none⟩ : Addr).add n = ⟨b, o + n, none⟩ := by
  unfold Addr.add
  split <;> simp_all

/-- One block turned, or one more. -/
theorem Rel.put {G G' : Tie} {h h' : Heap} {w w' : World} (R : Rel G h w) (x : Ext G G') (b k : Nat)
    (hx : ∀ c, c ≠ b → h'[c]? = h[c]?) (hn : G'.n = h'.length)
    (hfz : G'.fz = G.fz) (hbx : ∀ c, c ≠ b → G'.bx c = G.bx c) (hrw : ∀ c, c ≠ b → G'.rw c = G.rw c)
    (hk : ∀ k', G'.real h' b = some k' → k' = k) (hlow : G.b0 ≤ k) (hfree : ∀ o, G.fz k o = none) (hown : ∀ c, c ≠ b → G.real h c ≠ some k)
    (hs : w.heap.size ≤ w'.heap.size) (hw : ∀ c, c ≠ k → c < w.heap.size → w'.heap[c]? = w.heap[c]?)
    (hbox : ∀ t cs, h'[b]? = some (.box t cs) → cs.all oneCell = true ∧ ∃ rs, w'.heap[G'.bx b]? = some (.cells rs t (0, 0)) ∧ RepL G' cs rs.toList)
    (hrow : ∀ t sz e rows, h'[b]? = some (.row t sz e rows) → 0 < sz ∧ ∃ L rs, G'.rw b = some L ∧ L.e = e ∧ L.sz = sz ∧ rows.length ≤ L.cp ∧
      w'.heap[L.blk]? = some (.cells rs t (0, 0)) ∧ rs.size = L.cp * sz ∧ RepBlk G' sz rs rows)
    (hmp : ∀ es, h'[b]? = some (.mmap es) → ∃ l clock, w'.heap[G'.bx b]? = some (.map l clock) ∧ RepM G' es l.toList) : Rel G' h' w' := by
  have hreal : ∀ c, c ≠ b → G'.real h' c = G.real h c := by
    intro c hc
    unfold Tie.real
    rw [hx c hc, hbx c hc, hrw c hc]
  refine ⟨hn, ?_, ?_, ?_, ?_, ?_, ?_, ?_⟩
  · intro c o v hv
    rw [hfz] at hv
    have := R.fz c o v hv
    have hc : c < w.heap.size := by
      unfold World.cell? at this
      rcases Nat.lt_or_ge c w.heap.size with hb | hb
      · exact hb
      · simp [Array.getElem?_eq_none hb] at this
    have hck : c ≠ k := by
      intro e
      subst e
      rw [hfree o] at hv
      simp at hv
    unfold World.cell? at this ⊢
    rwa [hw c hck hc]
  · intro c t cs e
    by_cases hc : c = b
    · subst hc; exact hbox t cs e
    · rw [hx c hc] at e
      obtain ⟨h1, rs, h2, h3⟩ := R.box c t cs e
      have hne : G.bx c ≠ k := by
        intro ek
        apply hown c hc
        unfold Tie.real
        rw [e, ek]
      refine ⟨h1, rs, ?_, h3.ext x⟩
      rw [hbx c hc, hw _ hne (Array.getElem?_eq_some_iff.1 h2).1]
      exact h2
  · intro c t sz e rows eq
    by_cases hc : c = b
    · subst hc; exact hrow t sz e rows eq
    · rw [hx c hc] at eq
      obtain ⟨h0, L, rs, h1, h2, h3, h4, h5, h6, h7⟩ := R.row c t sz e rows eq
      have hne : L.blk ≠ k := by
        intro ek
        apply hown c hc
        unfold Tie.real
        simp [eq, h1, ek]
      refine ⟨h0, L, rs, ?_, h2, h3, h4, ?_, h6, h7.ext x⟩
      · rw [hrw c hc]; exact h1
      · rw [hw _ hne (Array.getElem?_eq_some_iff.1 h5).1]; exact h5
  · intro c es e
    by_cases hc : c = b
    · subst hc; exact hmp es e
    · rw [hx c hc] at e
      obtain ⟨l, clock, h1, h2⟩ := R.mp c es e
      have hne : G.bx c ≠ k := by
        intro ek
        apply hown c hc
        unfold Tie.real
        rw [e, ek]
      refine ⟨l, clock, ?_, h2.ext x⟩
      rw [hbx c hc, hw _ hne (Array.getElem?_eq_some_iff.1 h1).1]
      exact h1
  · intro c k' hk'
    by_cases hc : c = b
    · subst hc
      rw [hk k' hk', x.b0, hfz]
      exact ⟨hlow, hfree⟩
    · rw [hreal c hc] at hk'
      rw [x.b0, hfz]
      exact R.low c k' hk'
  · intro c c' k' h1 h2
    by_cases hc : c = b
    · by_cases hc' : c' = b
      · rw [hc, hc']
      · subst hc
        rw [hreal c' hc'] at h2
        exact absurd (hk k' h1 ▸ h2) (hown c' hc')
    · by_cases hc' : c' = b
      · subst hc'
        rw [hreal c hc] at h1
        exact absurd (hk k' h2 ▸ h1) (hown c hc)
      · rw [hreal c hc] at h1
        rw [hreal c' hc'] at h2
        exact R.inj c c' k' h1 h2
  · rw [x.b0]
    exact Nat.le_trans R.hb0 hs

theorem Rel.real_lt {G : Tie} {h : Heap} {b k : Nat} (hk : G.real h b = some k) : b < h.length := by
  unfold Tie.real at hk
  rcases Nat.lt_or_ge b h.length with hb | hb
  · exact hb
  · simp [List.getElem?_eq_none hb] at hk

theorem Rel.fz_new {G : Tie} {h : Heap} {w : World} (R : Rel G h w) (o : Nat) : G.fz w.heap.size o = none := by
  cases e : G.fz w.heap.size o with
  | none => rfl
  | some v =>
    have := R.fz _ _ _ e
    unfold World.cell? at this
    simp at this

/-- A new box. -/
def Tie.newBox (G : Tie) (k : Nat) : Tie := { G with n := G.n + 1, bx := fun c => if c = G.n then k else G.bx c }
def Tie.newRow (G : Tie) (L : RowLoc) : Tie := { G with n := G.n + 1, rw := fun c => if c = G.n then some L else G.rw c }
def Tie.setRow (G : Tie) (b : Nat) (L : RowLoc) : Tie := { G with rw := fun c => if c = b then some L else G.rw c }

theorem Ext.newBox (G : Tie) (k : Nat) : Ext G (G.newBox k) where
  fz _ _ _ h := h
  n := Nat.le_succ _
  bx b hb := by simp only [Tie.newBox]; rw [if_neg (by omega)]
  rw _ _ L h := ⟨L, h, Nat.le_refl _, fun _ => rfl⟩
  b0 := rfl

theorem Ext.newRow (G : Tie) (k : RowLoc) : Ext G (G.newRow k) where
  fz _ _ _ h := h
  n := Nat.le_succ _
  bx _ _ := rfl
  rw b hb L h := by
    simp only [Tie.newRow] at h
    rw [if_neg (by omega)] at h
    exact ⟨L, h, Nat.le_refl _, fun _ => rfl⟩
  b0 := rfl

theorem Ext.setRow (G : Tie) (b : Nat) (L L' : RowLoc) (hb : G.rw b = some L) (he : L.e ≤ L'.e) (hq : L.e = L'.e → L' = L) : Ext G (G.setRow b L') where
  fz _ _ _ h := h
  n := Nat.le_refl _
  bx _ _ := rfl
  rw c hc M h := by
    simp only [Tie.setRow] at h
    by_cases e : c = b
    · subst e
      rw [if_pos rfl] at h
      injection h with h
      subst h
      exact ⟨L, hb, he, hq⟩
    · rw [if_neg e] at h
      exact ⟨M, h, Nat.le_refl _, fun _ => rfl⟩
  b0 := rfl

theorem Rel.newBox {G : Tie} {h : Heap} {w : World} (R : Rel G h w) {cs : List V} {rs : Array Value} (ty : TypeId) (h1 : cs.all oneCell = true) (hr : RepL G cs rs.toList) :
    Rel (G.newBox w.heap.size) (h ++ [.box ty cs]) (w.alloc (.cells rs ty (0, 0))) := by
  have x := Ext.newBox G w.heap.size
  refine R.put x G.n w.heap.size ?_ ?_ rfl ?_ (fun _ _ => rfl) ?_ R.hb0 R.fz_new ?_ ?_ ?_ ?_ ?_ (fun es e => by rw [R.n, List.getElem?_append_right (Nat.le_refl _)] at e; simp at e)
  · intro c hc
    rw [R.n] at hc
    rcases Nat.lt_or_ge c h.length with hl | hl
    · rw [List.getElem?_append_left hl]
    · rw [List.getElem?_eq_none hl, List.getElem?_eq_none (by simp; omega)]
  · simp [Tie.newBox, R.n]
  · intro c hc
    simp only [Tie.newBox]
    rw [if_neg hc]
  · intro k' hk'
    unfold Tie.real at hk'
    rw [R.n, List.getElem?_append_right (Nat.le_refl _)] at hk'
    simp [Tie.newBox, R.n] at hk'
    omega
  · intro c hc e
    have := R.lt e
    omega
  · simp
  · intro c hc hl
    exact heap_alloc_lt w _ c hl
  · intro t' cs' e
    rw [R.n, List.getElem?_append_right (Nat.le_refl _)] at e
    simp at e
    obtain ⟨rfl, rfl⟩ := e
    refine ⟨h1, rs, ?_, hr.ext x⟩
    simp only [Tie.newBox, if_true]
    exact heap_alloc_eq w _
  · intro t sz e rows eq
    rw [R.n, List.getElem?_append_right (Nat.le_refl _)] at eq
    simp at eq

theorem Rel.newRow {G : Tie} {h : Heap} {w : World} (R : Rel G h w) {sz cp : Nat} {rows : List (List V)} {rs : Array Value} (ty : TypeId) (hsz : 0 < sz) (hcp : rows.length ≤ cp)
    (hs : rs.size = cp * sz) (hr : RepBlk G sz rs rows) :
    Rel (G.newRow ⟨0, sz, w.heap.size, cp⟩) (h ++ [.row ty sz 0 rows]) (w.alloc (.cells rs ty (0, 0))) := by
  have x := Ext.newRow G ⟨0, sz, w.heap.size, cp⟩
  refine R.put x G.n w.heap.size ?_ ?_ rfl (fun _ _ => rfl) ?_ ?_ R.hb0 R.fz_new ?_ ?_ ?_ ?_ ?_ (fun es e => by rw [R.n, List.getElem?_append_right (Nat.le_refl _)] at e; simp at e)
  · intro c hc
    rw [R.n] at hc
    rcases Nat.lt_or_ge c h.length with hl | hl
    · rw [List.getElem?_append_left hl]
    · rw [List.getElem?_eq_none hl, List.getElem?_eq_none (by simp; omega)]
  · simp [Tie.newRow, R.n]
  · intro c hc
    simp only [Tie.newRow]
    rw [if_neg hc]
  · intro k' hk'
    unfold Tie.real at hk'
    rw [R.n, List.getElem?_append_right (Nat.le_refl _)] at hk'
    simp [Tie.newRow, R.n] at hk'
    omega
  · intro c hc e
    have := R.lt e
    omega
  · simp
  · intro c hc hl
    exact heap_alloc_lt w _ c hl
  · intro t' cs' e
    rw [R.n, List.getElem?_append_right (Nat.le_refl _)] at e
    simp at e
  · intro t' sz' e rows' eq
    rw [R.n, List.getElem?_append_right (Nat.le_refl _)] at eq
    simp at eq
    obtain ⟨rfl, rfl, rfl, rfl⟩ := eq
    refine ⟨hsz, ⟨0, sz, w.heap.size, cp⟩, rs, ?_, rfl, rfl, hcp, ?_, hs, hr.ext x⟩
    · simp [Tie.newRow]
    · exact heap_alloc_eq w _

/-- A box's cells turned. -/
theorem Rel.setBox {G : Tie} {h : Heap} {w : World} (R : Rel G h w) {b : Nat} {cs cs' : List V} {rs rs' : Array Value} {ty : TypeId} (hb : h[b]? = some (.box ty cs))
    (hw : w.heap[G.bx b]? = some (.cells rs ty (0, 0))) (h1 : cs'.all oneCell = true) (hr : RepL G cs' rs'.toList) : Rel G (h.set b (.box ty cs')) (w.setRow (G.bx b) rs') := by
  have hreal : G.real h b = some (G.bx b) := by unfold Tie.real; rw [hb]
  have hlt : b < h.length := Rel.real_lt hreal
  refine R.put (Ext.refl G) b (G.bx b) ?_ ?_ rfl (fun _ _ => rfl) (fun _ _ => rfl) ?_ (R.low b _ hreal).1 (R.low b _ hreal).2 ?_ ?_ ?_ ?_ ?_ (fun es e => by rw [List.getElem?_set_self hlt] at e; simp at e)
  · intro c hc
    rw [List.getElem?_set_ne (by omega)]
  · simp [R.n]
  · intro k' hk'
    unfold Tie.real at hk'
    rw [List.getElem?_set_self hlt] at hk'
    simpa using hk'.symm
  · intro c hc e
    exact hc (R.inj c b _ e hreal)
  · simp [World.setRow]
  · intro c hc _
    exact setRow_other w _ _ _ hc
  · intro t' cs'' e
    rw [List.getElem?_set_self hlt] at e
    simp at e
    obtain ⟨rfl, rfl⟩ := e
    exact ⟨h1, rs', setRow_heap w _ _ _ _ _ hw, hr⟩
  · intro t sz e rows eq
    rw [List.getElem?_set_self hlt] at eq
    simp at eq


/-- A new map. -/
theorem Rel.newMap {G : Tie} {h : Heap} {w : World} (R : Rel G h w) : Rel (G.newBox w.heap.size) (h ++ [.mmap []]) (w.alloc (.map #[] 0)) := by
  have x := Ext.newBox G w.heap.size
  refine R.put x G.n w.heap.size ?_ ?_ rfl ?_ (fun _ _ => rfl) ?_ R.hb0 R.fz_new ?_ ?_ ?_ (fun t cs e => by rw [R.n, List.getElem?_append_right (Nat.le_refl _)] at e; simp at e) (fun t sz e rows eq => by rw [R.n, List.getElem?_append_right (Nat.le_refl _)] at eq; simp at eq) ?_
  · intro c hc
    rw [R.n] at hc
    rcases Nat.lt_or_ge c h.length with hl | hl
    · rw [List.getElem?_append_left hl]
    · rw [List.getElem?_eq_none hl, List.getElem?_eq_none (by simp; omega)]
  · simp [Tie.newBox, R.n]
  · intro c hc
    simp only [Tie.newBox]
    rw [if_neg hc]
  · intro k' hk'
    unfold Tie.real at hk'
    rw [R.n, List.getElem?_append_right (Nat.le_refl _)] at hk'
    simp [Tie.newBox, R.n] at hk'
    omega
  · intro c hc e
    have := R.lt e
    omega
  · simp
  · intro c hc hl
    exact heap_alloc_lt w _ c hl
  · intro es e
    rw [R.n, List.getElem?_append_right (Nat.le_refl _)] at e
    simp at e
    subst e
    refine ⟨#[], 0, ?_, rfl⟩
    simp only [Tie.newBox, if_true]
    exact heap_alloc_eq w _

/-- A map turned. -/
theorem Rel.setMap {G : Tie} {h : Heap} {w w' : World} (R : Rel G h w) {b : Nat} {es es' : List (Value × V)} {l : Array MapEntry} {clock : Nat} (hb : h[b]? = some (.mmap es)) (hs : w.heap.size ≤ w'.heap.size) (hw : ∀ c, c ≠ G.bx b → c < w.heap.size → w'.heap[c]? = w.heap[c]?)
    (hw' : w'.heap[G.bx b]? = some (.map l clock)) (hr : RepM G es' l.toList) : Rel G (h.set b (.mmap es')) w' := by
  have hreal : G.real h b = some (G.bx b) := by unfold Tie.real; rw [hb]
  have hlt : b < h.length := Rel.real_lt hreal
  refine R.put (Ext.refl G) b (G.bx b) ?_ ?_ rfl (fun _ _ => rfl) (fun _ _ => rfl) ?_ (R.low b _ hreal).1 (R.low b _ hreal).2 ?_ hs hw (fun t cs e => by rw [List.getElem?_set_self hlt] at e; simp at e) (fun t sz e rows eq => by rw [List.getElem?_set_self hlt] at eq; simp at eq) ?_
  · intro c hc
    rw [List.getElem?_set_ne (by omega)]
  · simp [R.n]
  · intro k' hk'
    unfold Tie.real at hk'
    rw [List.getElem?_set_self hlt] at hk'
    simpa using hk'.symm
  · intro c hc e
    exact hc (R.inj c b _ e hreal)
  · intro es2 e
    rw [List.getElem?_set_self hlt] at e
    simp at e
    subst e
    exact ⟨l, clock, hw', hr⟩

/-- A row turned: at its place, or at a new one. -/
theorem Rel.setRowAt {G : Tie} {h : Heap} {w w' : World} (R : Rel G h w) {b : Nat} {sz e e' : Nat} {rows rows' : List (List V)} {L L' : RowLoc} {rs' : Array Value} {ty : TypeId}
    (hb : h[b]? = some (.row ty sz e rows)) (hL : G.rw b = some L) (he : L.e ≤ L'.e) (hq : L.e = L'.e → L' = L) (hLe : L'.e = e') (hLs : L'.sz = sz) (hcp : rows'.length ≤ L'.cp)
    (hblk : L'.blk = L.blk ∨ L'.blk = w.heap.size) (hs : w.heap.size ≤ w'.heap.size) (hw : ∀ c, c ≠ L'.blk → c < w.heap.size → w'.heap[c]? = w.heap[c]?)
    (hw' : w'.heap[L'.blk]? = some (.cells rs' ty (0, 0))) (hsz' : rs'.size = L'.cp * sz) (hr : RepBlk G sz rs' rows') :
    Rel (G.setRow b L') (h.set b (.row ty sz e' rows')) w' := by
  have x := Ext.setRow G b L L' hL he hq
  have hreal : G.real h b = some L.blk := by unfold Tie.real; rw [hb]; simp [hL]
  have hlt : b < h.length := Rel.real_lt hreal
  have hpos := (R.row b ty sz e rows hb).1
  refine R.put x b L'.blk ?_ ?_ rfl (fun _ _ => rfl) ?_ ?_ ?_ ?_ ?_ hs hw ?_ ?_ (fun es e => by rw [List.getElem?_set_self hlt] at e; simp at e)
  · intro c hc
    rw [List.getElem?_set_ne (by omega)]
  · simp [R.n, Tie.setRow]
  · intro c hc
    simp only [Tie.setRow]
    rw [if_neg hc]
  · intro k' hk'
    unfold Tie.real at hk'
    rw [List.getElem?_set_self hlt] at hk'
    simpa [Tie.setRow] using hk'.symm
  · rcases hblk with e1 | e1
    · rw [e1]; exact (R.low b _ hreal).1
    · rw [e1]; exact R.hb0
  · rcases hblk with e1 | e1
    · rw [e1]; exact (R.low b _ hreal).2
    · rw [e1]; exact R.fz_new
  · intro c hc ec
    rcases hblk with e1 | e1
    · rw [e1] at ec
      exact hc (R.inj c b _ ec hreal)
    · have := R.lt ec
      omega
  · intro t' cs'' ec
    rw [List.getElem?_set_self hlt] at ec
    simp at ec
  · intro t1 sz1 e1 rows1 eq
    rw [List.getElem?_set_self hlt] at eq
    simp at eq
    obtain ⟨rfl, rfl, rfl, rfl⟩ := eq
    exact ⟨hpos, L', rs', by simp [Tie.setRow], hLe, hLs, hcp, hw', hsz', hr.ext x⟩

/-- At the same epoch nothing that is known turns. -/
theorem Tie.setRow_same {G : Tie} {b : Nat} {L : RowLoc} (h : G.rw b = some L) : G.setRow b L = G := by
  unfold Tie.setRow
  congr
  funext c
  by_cases e : c = b
  · rw [if_pos e, e, h]
  · rw [if_neg e]

/-! ### Reading -/

/-- The cells that a pointer points into, and where. -/
def ptrCells (h : Heap) (n : Nat) : V → Option (List V × Nat)
  | .ptr b off => match h[b]? with
    | some (.box _ cs) => some (cs, off)
    | _ => none
  | .rptr b e i off => match rowAt h b e with
    | some (_, rs) => (rs[i]?).bind fun cs => if off + n ≤ cs.length then some (cs, off) else if i = 0 then some (rs.flatten, off) else none
    | none => none
  | .eptr cs off => some (cs, off)
  | _ => none

theorem loadV_eq (h : Heap) (n : Option Nat) (v : V) : loadV h n v = (ptrCells h (n.getD 1) v).bind fun p => cutCells n p.1 p.2 := by
  cases v <;> simp only [loadV, ptrCells, Option.bind_none, Option.bind_some]
  · split <;> simp_all
  · split
    · rename_i eq
      simp only [eq, Option.bind_assoc]
      congr 1
      funext cs
      split
      · rfl
      · split <;> rfl
    · rename_i eq
      simp [eq]

theorem Rel.rowAt {G : Tie} {h : Heap} {w : World} (R : Rel G h w) {b e sz : Nat} {rows : List (List V)} (hr : rowAt h b e = some (sz, rows)) :
    ∃ t, h[b]? = some (.row t sz e rows) ∧ 0 < sz ∧ ∃ L rs, G.rw b = some L ∧ L.e = e ∧ L.sz = sz ∧ rows.length ≤ L.cp ∧
      w.heap[L.blk]? = some (.cells rs t (0, 0)) ∧ rs.size = L.cp * sz ∧ RepBlk G sz rs rows := by
  unfold Am.rowAt at hr
  split at hr
  · rename_i t sz' e' rs' eq
    split at hr
    · rename_i ee
      simp at hr
      obtain ⟨rfl, rfl⟩ := hr
      subst ee
      exact ⟨t, eq, R.row b _ _ _ _ eq⟩
    · simp at hr
  · simp at hr

theorem cell_of_heap {w : World} {b o : Nat} {rs : Array Value} {ty : TypeId} {fr : Nat × Nat} (h : w.heap[b]? = some (.cells rs ty fr)) : w.cell? ⟨b, o, none⟩ = rs[o]? := by
  unfold World.cell?
  simp [h]

/-- A row's cells, one behind the other. -/
theorem flat_get {G : Tie} {sz : Nat} {rs : Array Value} : ∀ {rows : List (List V)} {o : Nat}, (∀ (i : Nat) (cs : List V), rows[i]? = some cs → cs.length = sz ∧ ∀ (j : Nat) (c : V), cs[j]? = some c → ∃ v, rs[o + i * sz + j]? = some v ∧ RepV G c v) →
    ∀ (p : Nat) (c : V), rows.flatten[p]? = some c → ∃ v, rs[o + p]? = some v ∧ RepV G c v
  | [], o, h, p, c, hc => by simp at hc
  | r :: rows, o, h, p, c, hc => by
    obtain ⟨h1, h2⟩ := h 0 r rfl
    rw [List.flatten_cons] at hc
    by_cases hp : p < r.length
    · rw [List.getElem?_append_left hp] at hc
      simpa using h2 p c hc
    · rw [List.getElem?_append_right (by omega)] at hc
      have := flat_get (rows := rows) (o := o + sz) (fun i cs hi => by
        obtain ⟨h3, h4⟩ := h (i + 1) cs (by simpa using hi)
        refine ⟨h3, fun j c hj => ?_⟩
        have := h4 j c hj
        rwa [show o + (i + 1) * sz + j = o + sz + i * sz + j by rw [Nat.add_mul]; omega] at this) _ _ hc
      rwa [show o + sz + (p - r.length) = o + p by omega] at this

theorem RepBlk.flat {G : Tie} {sz : Nat} {rs : Array Value} {rows : List (List V)} (hB : RepBlk G sz rs rows) : ∀ (p : Nat) (c : V), rows.flatten[p]? = some c → ∃ v, rs[p]? = some v ∧ RepV G c v := by
  intro p c hc
  have := flat_get (rs := rs) (rows := rows) (o := 0) (fun i cs hi => ⟨(hB i cs hi).1, fun j c hj => by simpa using (hB i cs hi).2.2 j c hj⟩) p c hc
  simpa using this

theorem flat_length {G : Tie} {sz : Nat} {rs : Array Value} {rows : List (List V)} (hB : RepBlk G sz rs rows) : rows.flatten.length = rows.length * sz := by
  have h : ∀ l : List (List V), (∀ r ∈ l, r.length = sz) → l.flatten.length = l.length * sz := by
    intro l
    induction l with
    | nil => simp
    | cons r l ih =>
      intro hr
      simp only [List.flatten_cons, List.length_append, List.length_cons]
      rw [ih fun x hx => hr x (by simp [hx]), hr r (by simp), Nat.add_mul]
      omega
  refine h rows fun r hr => ?_
  obtain ⟨i, hi⟩ := List.getElem?_of_mem hr
  exact (hB i r hi).1

theorem flat_one {G : Tie} {sz : Nat} {rs : Array Value} {rows : List (List V)} (hB : RepBlk G sz rs rows) : rows.flatten.all oneCell = true := by
  rw [List.all_eq_true]
  intro v hv
  obtain ⟨r, hr, hv⟩ := List.mem_flatten.1 hv
  obtain ⟨i, hi⟩ := List.getElem?_of_mem hr
  exact List.all_eq_true.1 (hB i r hi).2.1 v hv

theorem chunk_length (sz : Nat) (l : List V) : (chunk sz l).length = l.length / sz := by simp [chunk]

theorem chunk_get {sz : Nat} {l : List V} {i : Nat} {cs : List V} (h : (chunk sz l)[i]? = some cs) : i < l.length / sz ∧ cs = (l.drop (i * sz)).take sz := by
  simp only [chunk, List.getElem?_map, Option.map_eq_some_iff] at h
  obtain ⟨k, hk, rfl⟩ := h
  have hkl : i < l.length / sz := by
    rcases Nat.lt_or_ge i (l.length / sz) with hl | hl
    · exact hl
    · rw [List.getElem?_eq_none (by simpa using hl)] at hk
      simp at hk
  rw [List.getElem?_range hkl] at hk
  injection hk with hk
  subst hk
  exact ⟨hkl, rfl⟩

theorem chunk_mem {sz : Nat} {l r : List V} (h : r ∈ chunk sz l) : ∀ v ∈ r, v ∈ l := by
  simp only [chunk, List.mem_map] at h
  obtain ⟨i, _, rfl⟩ := h
  exact fun v hv => List.mem_of_mem_drop (List.mem_of_mem_take hv)

/-- Cells laid as a row. -/
theorem chunk_blk {G : Tie} {sz : Nat} {rs : Array Value} {l : List V} (hpos : 0 < sz) (h1 : l.all oneCell = true) (h : ∀ (p : Nat) (c : V), l[p]? = some c → ∃ v, rs[p]? = some v ∧ RepV G c v) : RepBlk G sz rs (chunk sz l) := by
  intro i cs hi
  obtain ⟨hl, rfl⟩ := chunk_get hi
  have hroom : i * sz + sz ≤ l.length := by
    have h2 : (i + 1) * sz ≤ l.length / sz * sz := Nat.mul_le_mul_right _ hl
    have h3 := Nat.div_mul_le_self l.length sz
    rw [Nat.add_mul] at h2
    omega
  refine ⟨by simp; omega, ?_, fun j c hj => ?_⟩
  · rw [List.all_eq_true] at h1 ⊢
    exact fun v hv => h1 v (List.mem_of_mem_drop (List.mem_of_mem_take hv))
  · rw [List.getElem?_take] at hj
    split at hj
    · rw [List.getElem?_drop] at hj
      exact h _ _ hj
    · simp at hj

/-- What a pointer points at, in the machine's memory. -/
theorem Rel.cells {G : Tie} {h : Heap} {w : World} (R : Rel G h w) {v : V} {r : Value} {cs : List V} {off n : Nat} (hp : ptrCells h n v = some (cs, off)) (hv : RepV G v r) :
    ∃ b o, r = .pointer (some ⟨b, o, none⟩) ∧ ∀ j c, cs[off + j]? = some c → ∃ rv, w.cell? ⟨b, o + j, none⟩ = some rv ∧ RepV G c rv := by
  cases v <;> simp only [ptrCells] at hp
  case ptr b' off' =>
    simp only [RepV] at hv
    split at hp
    · rename_i cs' eq
      simp at hp
      obtain ⟨rfl, rfl⟩ := hp
      obtain ⟨_, rs, hw, hl⟩ := R.box _ _ _ eq
      refine ⟨_, _, hv.2, fun j c hc => ?_⟩
      obtain ⟨rv, h1, h2⟩ := hl.get hc
      exact ⟨rv, by rw [cell_of_heap hw, ← Array.getElem?_toList]; exact h1, h2⟩
    · simp at hp
  case rptr b' e i off' =>
    simp only [RepV] at hv
    split at hp
    · rename_i sz rs' eq
      simp only [Option.bind_eq_some_iff] at hp
      obtain ⟨cs', hc', hp⟩ := hp
      obtain ⟨ty, _, hpos, L, rs, hL, he, hs, hcp, hw, hsz, hB⟩ := R.rowAt eq
      obtain ⟨_, a, rfl, ha⟩ := hv
      have := (ha L hL).2 he.symm
      subst this
      refine ⟨_, _, rfl, fun j c hc => ?_⟩
      split at hp
      · simp only [Option.some.injEq, Prod.mk.injEq] at hp
        obtain ⟨rfl, rfl⟩ := hp
        obtain ⟨_, _, h3⟩ := hB i _ hc'
        obtain ⟨rv, h4, h5⟩ := h3 _ _ hc
        exact ⟨rv, by rw [cell_of_heap hw, hs, Nat.add_assoc]; exact h4, h5⟩
      · split at hp
        · rename_i hi0
          subst hi0
          simp only [Option.some.injEq, Prod.mk.injEq] at hp
          obtain ⟨rfl, rfl⟩ := hp
          obtain ⟨rv, h4, h5⟩ := RepBlk.flat hB _ _ hc
          exact ⟨rv, by rw [cell_of_heap hw, Nat.zero_mul, Nat.zero_add]; exact h4, h5⟩
        · simp at hp
    · simp at hp
  case eptr cs' off' =>
    simp at hp
    obtain ⟨rfl, rfl⟩ := hp
    simp only [RepV] at hv
    obtain ⟨b, o, rfl, _, hF⟩ := hv
    refine ⟨_, _, rfl, fun j c hc => ?_⟩
    obtain ⟨rv, h1, h2⟩ := hF.get hc
    exact ⟨rv, by rw [Nat.add_assoc]; exact R.fz _ _ _ h1, h2⟩
  all_goals simp at hp

theorem cut_cells {G : Tie} {w : World} {b o : Nat} {cs : List V} {off k : Nat} (h : ∀ j c, cs[off + j]? = some c → ∃ rv, w.cell? ⟨b, o + j, none⟩ = some rv ∧ RepV G c rv) (hk : off + k ≤ cs.length) :
    ∃ rs : List Value, rs.length = k ∧ RepL G ((cs.drop off).take k) rs ∧ ∀ j v, rs[j]? = some v → w.cell? ⟨b, o + j, none⟩ = some v := by
  induction k generalizing off o with
  | zero => exact ⟨[], rfl, by simp [RepL], by simp⟩
  | succ k ih =>
    have hlt : off < cs.length := by omega
    obtain ⟨rv, h1, h2⟩ := h 0 cs[off] (by simp [hlt])
    obtain ⟨rs, h3, h4, h5⟩ := ih (off := off + 1) (o := o + 1) (fun j c hc => by
      have := h (j + 1) c (by rwa [show off + (j + 1) = off + 1 + j by omega])
      rwa [show o + (j + 1) = o + 1 + j by omega] at this) (by omega)
    refine ⟨rv :: rs, by simp [h3], ?_, ?_⟩
    · rw [List.drop_eq_getElem_cons hlt, List.take_succ_cons]
      simp only [RepL]
      exact ⟨rv, rs, rfl, h2, h4⟩
    · intro j v hv
      cases j with
      | zero => simp at hv; subst hv; simpa using h1
      | succ j =>
        have := h5 j v (by simpa using hv)
        rwa [show o + (j + 1) = o + 1 + j by omega]

theorem shape_run {P : Program} {t : TypeId} {n : Option Nat} (h : shapeO P t = some n) (w : World) :
    (match n with
     | none => (isAgg t).run P w = .ok false w
     | some k => (isAgg t).run P w = .ok true w ∧ (sizeOf t).run P w = .ok k w) := by
  simp only [shapeO, aggT, sizeO, Option.bind_eq_some_iff, Option.map_eq_some_iff] at h
  obtain ⟨a, ⟨d, hd, ha⟩, m, ⟨i, hi, hm⟩, hn⟩ := h
  have hsz : (sizeOf t).run P w = .ok m w := by
    simp [sizeOf, typeInfo, hi, hm]
  split at hn
  · rename_i ht
    injection hn with hn
    subst hn
    refine ⟨?_, hsz⟩
    simp only [isAgg, Sem.run_bind, run_underlying hd w, Result.andThen]
    cases d <;> simp_all
  · rename_i ht
    split at hn
    · injection hn with hn
      subst hn
      simp only [isAgg, Sem.run_bind, run_underlying hd w, Result.andThen]
      cases d <;> simp_all
    · simp at hn

/-- A load. -/
theorem load_run {P : Program} {G : Tie} {h : Heap} {w : World} (R : Rel G h w) {t : TypeId} {n : Option Nat} (hn : shapeO P t = some n) {v x : V} {r : Value}
    (hv : RepV G v r) (hx : loadV h n v = some x) : ∃ rx, (Instr.loadAt t r).run P w = .ok rx w ∧ RepV G x rx := by
  rw [loadV_eq, Option.bind_eq_some_iff] at hx
  obtain ⟨⟨cs, off⟩, hp, hc⟩ := hx
  obtain ⟨b, o, rfl, hcell⟩ := R.cells hp hv
  have hs := shape_run hn w
  cases n with
  | none =>
    simp only [cutCells] at hc
    obtain ⟨rv, h1, h2⟩ := hcell 0 x (by simpa using hc)
    refine ⟨rv, ?_, h2⟩
    simp only [Nat.add_zero] at h1
    simp [Instr.loadAt, Instr.sureAddr, loadVar, hs, h1]
  | some k =>
    simp only [cutCells] at hc
    split at hc
    · rename_i hle
      injection hc with hc
      subst hc
      obtain ⟨rs, h1, h2, h3⟩ := cut_cells hcell hle
      refine ⟨.agg rs.toArray, ?_, ?_⟩
      · have := run_loadCells_list (P := P) w ⟨b, o, none⟩ rs (fun j v hj => by rw [add_none]; exact h3 j v hj)
        rw [h1] at this
        simp [Instr.loadAt, Instr.sureAddr, loadVar, hs.1, hs.2, this]
      · simp only [RepV]
        exact ⟨_, rfl, by simpa using h2⟩
    · simp at hc

end Go.Am
end
section
/- Am: a store. -/
namespace Go.Am
open Go.RowKit (Below)

theorem RepL.one {G : Tie} : ∀ {cs : List V} {rs : List Value}, RepL G cs rs → cs.all oneCell = true → ∀ v ∈ rs, v.oneCell' = true
  | [], _, h, _, v, hv => by simp only [RepL] at h; subst h; simp at hv
  | c :: cs, _, h, h1, v, hv => by
    simp only [RepL] at h
    obtain ⟨r, rest, rfl, h2, h3⟩ := h
    simp only [List.all_cons, Bool.and_eq_true] at h1
    simp only [List.mem_cons] at hv
    rcases hv with rfl | hv
    · exact h2.one h1.1
    · exact RepL.one h3 h1.2 v hv

theorem putCells_length {cs new : List V} {off : Nat} (h : off + new.length ≤ cs.length) : (putCells cs off new).length = cs.length := by
  unfold putCells
  simp
  omega

theorem RepL.put {G : Tie} {cs new : List V} {rs ns : List Value} {off : Nat} (h : RepL G cs rs) (k : RepL G new ns) : RepL G (putCells cs off new) (rs.take off ++ ns ++ rs.drop (off + ns.length)) := by
  unfold putCells
  rw [k.length]
  exact ((h.take off).append k).append (h.drop _)

theorem all_put {cs new : List V} {off : Nat} {p : V → Bool} (h : cs.all p = true) (k : new.all p = true) : (putCells cs off new).all p = true := by
  unfold putCells
  simp only [List.all_append, Bool.and_eq_true]
  refine ⟨⟨?_, k⟩, ?_⟩
  · rw [List.all_eq_true] at h ⊢
    exact fun x hx => h x (List.mem_of_mem_take hx)
  · rw [List.all_eq_true] at h ⊢
    exact fun x hx => h x (List.mem_of_mem_drop hx)

theorem getElem?_put {α : Type} (cs new : List α) (off j : Nat) (h : off + new.length ≤ cs.length) :
    (cs.take off ++ new ++ cs.drop (off + new.length))[j]? = if off ≤ j ∧ j < off + new.length then new[j - off]? else cs[j]? := by
  have ht : (cs.take off).length = off := by simp; omega
  by_cases h1 : j < off
  · rw [if_neg (by omega), List.append_assoc, List.getElem?_append_left (by omega), List.getElem?_take_of_lt h1]
  · by_cases h2 : j < off + new.length
    · rw [if_pos (by omega), List.getElem?_append_left (by simp; omega), List.getElem?_append_right (by omega), ht]
    · rw [if_neg (by omega), List.getElem?_append_right (by simp; omega)]
      simp only [List.length_append, ht, List.getElem?_drop]
      congr 1
      omega

/-- A part of an element turned: the row's cells. -/
theorem RepBlk.put {G : Tie} {sz : Nat} {rs : Array Value} {rows : List (List V)} (hB : RepBlk G sz rs rows) (_ : 0 < sz) {i off : Nat} {cs new : List V} {ns : List Value}
    (hi : rows[i]? = some cs) (hk : RepL G new ns) (h1 : new.all oneCell = true) (hle : off + new.length ≤ cs.length) (hsz : i * sz + sz ≤ rs.size) :
    RepBlk G sz (rs.toList.take (i * sz + off) ++ ns ++ rs.toList.drop (i * sz + off + ns.length)).toArray (rows.set i (putCells cs off new)) := by
  obtain ⟨hl, hone, hcell⟩ := hB i cs hi
  have hlen : i < rows.length := (List.getElem?_eq_some_iff.1 hi).1
  have hnl := hk.length
  intro i' cs' hi'
  by_cases e : i' = i
  · subst e
    rw [List.getElem?_set_self hlen] at hi'
    injection hi' with hi'
    subst hi'
    refine ⟨by rw [putCells_length hle]; exact hl, all_put hone h1, fun j c hc => ?_⟩
    rw [List.getElem?_toArray, getElem?_put _ _ _ _ (by simp; omega)]
    unfold putCells at hc
    rw [getElem?_put _ _ _ _ hle] at hc
    by_cases hj : off ≤ j ∧ j < off + new.length
    · rw [if_pos hj] at hc
      rw [if_pos (by omega)]
      obtain ⟨r, h2, h3⟩ := hk.get hc
      exact ⟨r, by rw [show i' * sz + j - (i' * sz + off) = j - off by omega]; exact h2, h3⟩
    · rw [if_neg hj] at hc
      rw [if_neg (by omega)]
      obtain ⟨v, hv, hr⟩ := hcell j c hc
      exact ⟨v, by rw [Array.getElem?_toList]; exact hv, hr⟩
  · rw [List.getElem?_set_ne (by omega)] at hi'
    obtain ⟨h2, h3, h4⟩ := hB i' cs' hi'
    refine ⟨h2, h3, fun j c hc => ?_⟩
    obtain ⟨v, hv, hr⟩ := h4 j c hc
    refine ⟨v, ?_, hr⟩
    have hjlt : j < sz := by rw [← h2]; exact (List.getElem?_eq_some_iff.1 hc).1
    rw [List.getElem?_toArray, getElem?_put _ _ _ _ (by simp; omega), if_neg, Array.getElem?_toList]
    · exact hv
    · rcases Nat.lt_or_ge i' i with hlt | hge
      · have : (i' + 1) * sz ≤ i * sz := Nat.mul_le_mul_right _ hlt
        rw [Nat.add_mul] at this
        omega
      · have : (i + 1) * sz ≤ i' * sz := Nat.mul_le_mul_right _ (by omega)
        rw [Nat.add_mul] at this
        omega

theorem row_room {sz cp n i : Nat} {rs : Array Value} (hs : rs.size = cp * sz) (hn : n ≤ cp) (hi : i < n) : i * sz + sz ≤ rs.size := by
  have : (i + 1) * sz ≤ cp * sz := Nat.mul_le_mul_right _ (by omega)
  rw [Nat.add_mul] at this
  omega

theorem store_run {P : Program} {G : Tie} {h h' : Heap} {w : World} (R : Rel G h w) {t : TypeId} {n base : Nat} (hn : sizeO P t = some n) {a x : V} {ra rx : Value}
    (ha : RepV G a ra) (hx : RepV G x rx) (hst : storeV base h n a x = some h') : ∃ w', (Instr.storeAt t ra rx).run P w = .ok () w' ∧ Rel G h' w' ∧ Below G.b0 w w' := by
  unfold storeV at hst
  split at hst
  case isFalse => simp at hst
  rename_i hc
  obtain ⟨hlen, hone⟩ := hc
  have hxu : x ≠ .undef := by
    rintro rfl
    simp [V.cells, oneCell] at hone
  have hcells := hx.cells hxu
  have hsz : (sizeOf t).run P w = .ok n w := by
    simp only [sizeO, Option.map_eq_some_iff] at hn
    obtain ⟨i, hi, hm⟩ := hn
    simp [sizeOf, typeInfo, hi, hm]
  have hrl : rx.cells.size = n := by rw [← Array.length_toList, hcells.length, hlen]
  have hro := hcells.one hone
  split at hst
  · rename_i b off
    split at hst
    · rename_i cs eq
      split at hst
      · rename_i hle
        injection hst with hst
        subst hst
        obtain ⟨hle, _⟩ := hle
        simp only [RepV] at ha
        obtain ⟨hb, rfl⟩ := ha
        obtain ⟨h1, rs, hw, hl⟩ := R.box _ _ _ eq
        have hstore := run_storeCells_at (P := P) (G.bx b) off _ rx.cells.toList 0 rs w hw (by
          have := hl.length
          simp only [Array.length_toList] at this
          simp; omega) hro
        refine ⟨_, ?_, R.setBox (cs' := putCells cs off x.cells) (rs' := (rs.toList.take (off + 0) ++ rx.cells.toList ++ rs.toList.drop (off + 0 + rx.cells.toList.length)).toArray) eq hw (all_put h1 hone) ?_, below_setRow _ _ _ _ (R.low b _ (by unfold Tie.real; rw [eq])).1⟩
        · simp [Instr.storeAt, Instr.sureAddr, storeVar, hsz, hrl]
          simpa [hrl] using hstore
        · simpa using hl.put hcells
      · simp at hst
    · simp at hst
  · rename_i b e i off
    split at hst
    · rename_i sz e' rows eq
      split at hst
      · rename_i he
        subst he
        split at hst
        · rename_i cs hi
          split at hst
          · rename_i hle
            injection hst with hst
            subst hst
            obtain ⟨hle, _⟩ := hle
            simp only [RepV] at ha
            obtain ⟨hb, a, rfl, ha⟩ := ha
            obtain ⟨hpos, L, rs, hL, hLe, hLs, hcp, hw, hs, hB⟩ := R.row _ _ _ _ _ eq
            have := (ha L hL).2 hLe.symm
            subst this
            have hroom := row_room hs hcp ((List.getElem?_eq_some_iff.1 hi).1)
            have hcl := (hB i cs hi).1
            rw [hLs]
            have hstore := run_storeCells_at (P := P) L.blk (i * sz + off) _ rx.cells.toList 0 rs w hw (by
              simp only [Array.length_toList, Nat.add_zero]
              omega) hro
            refine ⟨w.setRow L.blk (rs.toList.take (i * sz + off) ++ rx.cells.toList ++ rs.toList.drop (i * sz + off + rx.cells.toList.length)).toArray, ?_, ?_, below_setRow _ _ _ _ (R.low b _ (by unfold Tie.real; rw [eq]; simp [hL])).1⟩
            · simp [Instr.storeAt, Instr.sureAddr, storeVar, hsz, hrl]
              simpa [hrl] using hstore
            · have := R.setRowAt (rows' := rows.set i (putCells cs off x.cells)) (L' := L) (w' := w.setRow L.blk (rs.toList.take (i * sz + off) ++ rx.cells.toList ++ rs.toList.drop (i * sz + off + rx.cells.toList.length)).toArray)
                (rs' := (rs.toList.take (i * sz + off) ++ rx.cells.toList ++ rs.toList.drop (i * sz + off + rx.cells.toList.length)).toArray)
                eq hL (Nat.le_refl _) (fun _ => rfl) hLe hLs (by simpa using hcp) (.inl rfl) (by simp) (fun c hc _ => setRow_other w _ _ _ hc) (setRow_heap w _ _ _ _ _ hw)
                (by simp; omega) (hB.put hpos hi hcells hone (by omega) hroom)
              rwa [Tie.setRow_same hL] at this
          · split at hst
            · rename_i hle
              injection hst with hst
              subst hst
              obtain ⟨rfl, hle, _⟩ := hle
              simp only [RepV] at ha
              obtain ⟨hb, a, rfl, ha⟩ := ha
              obtain ⟨hpos, L, rs, hL, hLe, hLs, hcp, hw, hs, hB⟩ := R.row _ _ _ _ _ eq
              have := (ha L hL).2 hLe.symm
              subst this
              have hfl := flat_length hB
              have hmul : rows.length * sz ≤ L.cp * sz := Nat.mul_le_mul_right _ hcp
              rw [Nat.zero_mul, Nat.zero_add]
              have hstore := run_storeCells_at (P := P) L.blk off _ rx.cells.toList 0 rs w hw (by
                simp only [Array.length_toList, Nat.add_zero]
                omega) hro
              refine ⟨w.setRow L.blk (rs.toList.take off ++ rx.cells.toList ++ rs.toList.drop (off + rx.cells.toList.length)).toArray, ?_, ?_, below_setRow _ _ _ _ (R.low b _ (by unfold Tie.real; rw [eq]; simp [hL])).1⟩
              · simp [Instr.storeAt, Instr.sureAddr, storeVar, hsz, hrl]
                simpa [hrl] using hstore
              · have := R.setRowAt (rows' := chunk sz (putCells rows.flatten off x.cells)) (L' := L) (w' := w.setRow L.blk (rs.toList.take off ++ rx.cells.toList ++ rs.toList.drop (off + rx.cells.toList.length)).toArray)
                  (rs' := (rs.toList.take off ++ rx.cells.toList ++ rs.toList.drop (off + rx.cells.toList.length)).toArray)
                  eq hL (Nat.le_refl _) (fun _ => rfl) hLe hLs (by rw [chunk_length, putCells_length (by omega), hfl, Nat.mul_div_cancel _ hpos]; exact hcp) (.inl rfl) (by simp) (fun c hc _ => setRow_other w _ _ _ hc) (setRow_heap w _ _ _ _ _ hw)
                  (by simp; omega) (chunk_blk hpos (all_put (flat_one hB) hone) fun p c hc => ?_)
                · rwa [Tie.setRow_same hL] at this
                · rw [List.getElem?_toArray, getElem?_put _ _ _ _ (by simp; omega)]
                  unfold putCells at hc
                  rw [getElem?_put _ _ _ _ (by omega)] at hc
                  have hcl := hcells.length
                  split at hc
                  · rename_i hj
                    rw [if_pos (by omega)]
                    exact hcells.get hc
                  · rename_i hj
                    rw [if_neg (by omega), Array.getElem?_toList]
                    exact RepBlk.flat hB p c hc
            · simp at hst
        · simp at hst
      · simp at hst
    · simp at hst
  · simp at hst

end Go.Am
end
section
/- Am: operations that leave memory as it is. -/
namespace Go.Am

theorem RepV.sc_inv {G : Tie} {v : Value} {r : Value} (h : RepV G (.sc v) r) : r = v := by simp only [RepV] at h; exact h.1

theorem RepV.int (G : Tie) (k : IntKind) (n : Int) : RepV G (.sc (.int k n)) (.int k n) := by simp [RepV, Value.oneCell']
theorem RepV.bool (G : Tie) (b : Bool) : RepV G (.sc (.bool b)) (.bool b) := by simp [RepV, Value.oneCell']
theorem RepV.str (G : Tie) (s : ByteArray) : RepV G (.sc (.string s)) (.string s) := by simp [RepV, Value.oneCell']

section
variable {P : Program} {gl : Nat → Option (List V)} {G : Tie} {en : Env} {a : Act} {w : World}

def GlobOk (G : Tie) (gl : Nat → Option (List V)) : Prop := ∀ g cs, gl g = some cs → RepV G (.eptr cs 0) (.pointer (some ⟨g, 0, none⟩))

theorem GlobOk.ext {G G' : Tie} {gl : Nat → Option (List V)} (x : Ext G G') (h : GlobOk G gl) : GlobOk G' gl := fun g cs e => (h g cs e).ext x

theorem scOf_rep {v : Value} {x : V} (h : scOf v = some x) : RepV G x v := by
  unfold scOf at h
  split at h <;> first | (simp at h; done) | (injection h with h; subst h; simp [RepV, Value.oneCell'])

theorem scOf_sc {v : Value} {x : V} (h : scOf v = some x) : x = .sc v := by
  unfold scOf at h
  split at h <;> first | (simp at h; done) | (injection h with h; exact h.symm)

theorem scsOf_rep : ∀ {l : List Value} {xs : List V}, scsOf l = some xs → RepL G xs l
  | [], xs, h => by simp [scsOf] at h; subst h; simp [RepL]
  | v :: r, xs, h => by
    simp only [scsOf, Option.bind_eq_some_iff, Option.map_eq_some_iff] at h
    obtain ⟨x, hx, ys, hy, rfl⟩ := h
    simp only [RepL]
    exact ⟨v, r, rfl, scOf_rep hx, scsOf_rep hy⟩

theorem scsOf_one : ∀ {l : List Value} {xs : List V}, scsOf l = some xs → xs.all oneCell = true ∧ xs.all ground = true
  | [], xs, h => by simp [scsOf] at h; subst h; simp
  | v :: r, xs, h => by
    simp only [scsOf, Option.bind_eq_some_iff, Option.map_eq_some_iff] at h
    obtain ⟨x, hx, ys, hy, rfl⟩ := h
    have := scsOf_one hy
    rw [scOf_sc hx]
    simp only [List.all_cons, oneCell, ground, Bool.true_and]
    exact this

theorem valOf_rep {v : Value} {x : V} (h : valOf v = some x) : RepV G x v := by
  unfold valOf at h
  split at h
  · simp only [Option.map_eq_some_iff] at h
    obtain ⟨xs, hx, rfl⟩ := h
    simp only [RepV]
    exact ⟨_, rfl, scsOf_rep hx⟩
  · exact scOf_rep h

theorem opd_rep (hgl : GlobOk G gl) (he : RepEnv G en a.tmps) {x : Operand} {y : Opd} (h : opd gl x = some y) : RepV G (y.get en) (a.eval x) := by
  cases x <;> simp only [opd] at h
  · injection h with h; subst h; exact he _
  · simp only [Option.map_eq_some_iff] at h
    obtain ⟨v, hv, rfl⟩ := h
    exact valOf_rep hv
  · simp only [Option.map_eq_some_iff] at h
    obtain ⟨cs, hv, rfl⟩ := h
    exact hgl _ _ hv
  · injection h with h; subst h; simp [Opd.get, Act.eval, RepV, RepL]

theorem opds_rep (hgl : GlobOk G gl) (he : RepEnv G en a.tmps) : ∀ {xs : List Operand} {ys : List Opd}, opds gl xs = some ys → RepL G (getsO en ys) (xs.map a.eval)
  | [], ys, h => by simp [opds] at h; subst h; simp [getsO, RepL]
  | x :: xs, ys, h => by
    simp only [opds, Option.bind_eq_some_iff, Option.map_eq_some_iff] at h
    obtain ⟨y, hy, zs, hz, rfl⟩ := h
    simp only [getsO, List.map_cons, RepL]
    exact ⟨_, _, rfl, opd_rep hgl he hy, opds_rep hgl he hz⟩

theorem bin_run {op : BinOp} {t : TypeId} {x y v : V} {rx ry : Value} {ox oy : Operand} (hx : RepV G x rx) (hy : RepV G y ry) (h : bin op x y = some v) :
    ∃ r, (do eqGuard op t ox oy rx ry; binOp op t rx ry : Sem Value).run P w = .ok r w ∧ RepV G v r := by
  unfold bin at h
  split at h
  · rename_i k m j n
    obtain rfl := hx.sc_inv
    obtain rfl := hy.sc_inv
    have hg : (eqGuard op t ox oy (.int k m) (.int j n)).run P w = .ok () w := by
      unfold eqGuard
      cases op <;> rfl
    simp only [Sem.run_bind, hg, Result.andThen_ok]
    split at h
    · split at h
      · simp at h
      · rename_i hn
        injection h with h; subst h
        exact ⟨_, by simp only [binOp, Op.shift, if_neg hn]; rfl, RepV.int _ _ _⟩
    · split at h
      · simp at h
      · rename_i hn
        injection h with h; subst h
        exact ⟨_, by simp only [binOp, Op.shift, if_neg hn]; rfl, RepV.int _ _ _⟩
    · rename_i h1 h2
      split at h
      · rename_i hk
        subst hk
        cases op <;> simp only [binInt] at h <;> simp only [binOp, ne_eq, not_true_eq_false, if_false, Op.intArith, Op.intDiv, Op.intBits, Op.intCmp]
        case shl => exact absurd rfl h1
        case shr => exact absurd rfl h2
        case quo => 
          split at h
          · simp at h
          · rename_i h0; injection h with h; subst h; rw [if_neg h0]; exact ⟨_, rfl, RepV.int _ _ _⟩
        case rem => 
          split at h
          · simp at h
          · rename_i h0; injection h with h; subst h; rw [if_neg h0]; exact ⟨_, rfl, RepV.int _ _ _⟩
        all_goals (injection h with h; subst h; exact ⟨_, rfl, by simp [RepV, Value.oneCell']⟩)
      · simp at h
  · rename_i p q
    obtain rfl := hx.sc_inv
    obtain rfl := hy.sc_inv
    have hg : (eqGuard op t ox oy (.string p) (.string q)).run P w = .ok () w := by
      unfold eqGuard
      cases op <;> rfl
    simp only [Sem.run_bind, hg, Result.andThen_ok]
    cases op <;> simp only [binStr] at h <;> simp only [binOp, Op.stringOp]
    case add =>
      split at h
      · rename_i hl
        injection h with h; subst h
        unfold lim at hl
        refine ⟨.string (p ++ q), ?_, RepV.str _ _⟩
        rw [if_neg]
        · rfl
        · show ¬ _ > IntKind.i64.max
          have : IntKind.i64.max = 9223372036854775807 := by decide
          rw [this]
          omega
      · simp at h
    all_goals first
      | (simp at h; done)
      | (injection h with h; subst h; exact ⟨_, rfl, by simp [RepV, Value.oneCell']⟩)
  · simp at h

theorem eqBool_run {neg : Bool} {t : TypeId} {p q : Bool} {ox oy : Operand} (ht : P.underlying t = some .bool) :
    (do eqGuard (if neg then .neq else .eql) t ox oy (.bool p) (.bool q); binOp (if neg then .neq else .eql) t (.bool p) (.bool q) : Sem Value).run P w = .ok (.bool (if neg then !(p == q) else (p == q))) w := by
  have hg : (eqGuard (if neg then .neq else .eql) t ox oy (.bool p) (.bool q)).run P w = .ok () w := by
    unfold eqGuard
    cases neg <;> rfl
  have key : ∀ d, (Op.equalIn (d + 1) t (.bool p) (.bool q)).run P w = .ok (p == q) w := by
    intro d
    simp only [Op.equalIn, Sem.run_bind, run_underlying ht w, Result.andThen_ok]
    rfl
  have key' : (Op.equal t (.bool p) (.bool q)).run P w = .ok (p == q) w := key 9999
  simp only [Sem.run_bind, hg, Result.andThen_ok]
  cases neg
  · simp only [Bool.false_eq_true, if_false]
    unfold binOp
    simp only [Sem.run_bind, key', Result.andThen_ok]
    rfl
  · simp only [if_true]
    unfold binOp
    simp only [Sem.run_bind, key', Result.andThen_ok]
    rfl

theorem un_run {op : UnOp} {x v : V} {rx : Value} (hx : RepV G x rx) (h : unary op x = some v) : ∃ r, (Op.unary op rx).run P w = .ok r w ∧ RepV G v r := by
  unfold unary at h
  split at h
  · obtain rfl := hx.sc_inv
    split at h
    · injection h with h; subst h; exact ⟨_, rfl, RepV.int _ _ _⟩
    · injection h with h; subst h; exact ⟨_, rfl, RepV.int _ _ _⟩
    · simp at h
  · obtain rfl := hx.sc_inv
    split at h
    · injection h with h; subst h; exact ⟨_, rfl, RepV.bool _ _⟩
    · simp at h
  · simp at h

/-- A part of a struct's or an array's value. -/
theorem part_run {t : TypeId} {n : Option Nat} (hn : shapeO P t = some n) {cs : List V} {off : Nat} {v : V} {rs : Array Value} (hc : RepL G cs rs.toList) (h : cutCells n cs off = some v) :
    ∃ r, (part t rs off).run P w = .ok r w ∧ RepV G v r := by
  have hs := shape_run hn w
  cases n with
  | none =>
    simp only [cutCells] at h
    obtain ⟨r, h1, h2⟩ := hc.get h
    rw [Array.getElem?_toList] at h1
    exact ⟨r, by simp [part, hs, h1], h2⟩
  | some k =>
    simp only [cutCells] at h
    split at h
    · rename_i hle
      injection h with h; subst h
      refine ⟨.agg (rs.extract off (off + k)), by simp [part, hs.1, hs.2], ?_⟩
      simp only [RepV]
      refine ⟨_, rfl, ?_⟩
      have : (rs.extract off (off + k)).toList = (rs.toList.drop off).take k := by
        simp [List.extract, Nat.add_sub_cancel_left]
      rw [this]
      exact (hc.drop off).take k
    · simp at h

theorem asNat_run {x : V} {n : Nat} {rx : Value} (hx : RepV G x rx) (h : asNat? x = some n) : ∃ k i, rx = .int k i ∧ 0 ≤ i ∧ i.toNat = n := by
  unfold asNat? at h
  split at h
  · rename_i k i
    obtain rfl := hx.sc_inv
    split at h
    · rename_i h0
      injection h with h
      exact ⟨k, i, rfl, h0, h⟩
    · simp at h
  · simp at h

theorem minmax_run (mx : Bool) (ts : Array TypeId) (ty : TypeId) : ∀ {xs : List V} {x v : V} {r : Value} {rs : List Value}, RepV G x r → RepL G xs rs → minmax mx x xs = some v →
    ∃ q, (rs.foldlM (if mx then Builtin.max2 else Builtin.min2) r : Sem Value).run P w = .ok q w ∧ RepV G v q
  | [], x, v, r, rs, hx, hs, h => by
    simp only [RepL] at hs
    subst hs
    simp only [minmax] at h
    injection h with h
    subst h
    exact ⟨r, rfl, hx⟩
  | y :: ys, x, v, r, rs, hx, hs, h => by
    simp only [RepL] at hs
    obtain ⟨q, rest, rfl, hy, hs⟩ := hs
    unfold minmax at h
    split at h
    · rename_i e; simp at e
    · rename_i e
      simp only [List.cons.injEq] at e
      obtain ⟨rfl, rfl⟩ := e
      obtain rfl := hx.sc_inv
      obtain rfl := hy.sc_inv
      split at h
      · rename_i hk
        subst hk
        obtain ⟨z, h1, h2⟩ := minmax_run mx ts ty (RepV.int G _ _) hs h
        refine ⟨z, ?_, h2⟩
        rw [List.foldlM_cons, Sem.run_bind]
        cases mx
        · simpa [Builtin.min2] using h1
        · simpa [Builtin.max2] using h1
      · simp at h
    · simp at h

end
end Go.Am
end
section
/- Am: '==' of structs; nil. -/
namespace Go.Am
section
variable {P : Program} {G : Tie} {w : World}

theorem eqLeaves_append (xs ys : List V) : ∀ (l m : List (Nat × LK)), eqLeaves xs ys (l ++ m) = (eqLeaves xs ys l).bind fun a => (eqLeaves xs ys m).map fun b => a && b
  | [], m => by simp [eqLeaves]
  | o :: l, m => by
    simp only [List.cons_append, eqLeaves]
    split
    · rw [eqLeaves_append xs ys l m]
      cases eqCell o.2 _ _ <;> simp
      cases eqLeaves xs ys l <;> simp
      cases eqLeaves xs ys m <;> simp [Bool.and_assoc]
    · simp

theorem eqLeaves_shift (xs ys : List V) (o k : Nat) : ∀ (l : List (Nat × LK)), l.all (fun i => decide (i.1 < k)) = true →
    eqLeaves xs ys (l.map fun i => (o + i.1, i.2)) = eqLeaves ((xs.drop o).take k) ((ys.drop o).take k) l
  | [], _ => by simp [eqLeaves]
  | p :: l, h => by
    simp only [List.all_cons, Bool.and_eq_true, decide_eq_true_eq] at h
    have hx : ∀ zs : List V, ((zs.drop o).take k)[p.1]? = zs[o + p.1]? := by
      intro zs
      rw [List.getElem?_take_of_lt h.1, List.getElem?_drop]
    simp only [List.map_cons, eqLeaves, hx]
    rw [eqLeaves_shift xs ys o k l h.2]

theorem RepV.take {G : Tie} {xs : List V} {rs : Array Value} (h : RepL G xs rs.toList) (o k : Nat) : RepV G (.agg ((xs.drop o).take k)) (.agg (rs.extract o (o + k))) := by
  simp only [RepV]
  refine ⟨_, rfl, ?_⟩
  have : (rs.extract o (o + k)).toList = (rs.toList.drop o).take k := by
    simp [List.extract, Nat.add_sub_cancel_left]
  rw [this]
  exact (h.drop o).take k

theorem eq_run (w : World) : ∀ (k d : Nat) {t : TypeId} {ls : List (Nat × LK)} {n : Option Nat} {xs ys : List V} {rxs rys : Array Value} {res : Bool} {o : Nat}, k ≤ d → leavesOf P k t = some ls → shapeO P t = some n →
    ls.all (fun i => decide (i.1 < n.getD 1)) = true →
    RepL G xs rxs.toList → RepL G ys rys.toList → eqLeaves xs ys (ls.map fun i => (o + i.1, i.2)) = some res →
    ∃ a b, (part t rxs o).run P w = .ok a w ∧ (part t rys o).run P w = .ok b w ∧ (Op.equalIn d t a b).run P w = .ok res w
  | 0, _, _, _, _, _, _, _, _, _, _, _, h, _, _, _, _, _ => by simp [leavesOf] at h
  | k + 1, d, t, ls, n, xs, ys, rxs, rys, res, o, hd, h, hn, hall, hx, hy, he => by
    obtain ⟨d, rfl⟩ : ∃ m, d = m + 1 := ⟨d - 1, by omega⟩
    have hs := shape_run hn w
    have hscal : ∀ (kd : LK), ls = [(0, kd)] → n = none → ∃ x y rx ry, (part t rxs o).run P w = .ok rx w ∧ (part t rys o).run P w = .ok ry w ∧ RepV G x rx ∧ RepV G y ry ∧ eqCell kd x y = some res := by
      rintro kd rfl rfl
      simp only [List.map_cons, List.map_nil, Nat.add_zero, eqLeaves] at he
      split at he
      · rename_i x y ex ey
        obtain ⟨rx, h1, h2⟩ := hx.get ex
        obtain ⟨ry, h3, h4⟩ := hy.get ey
        rw [Array.getElem?_toList] at h1 h3
        refine ⟨x, y, rx, ry, by simp [part, hs, h1], by simp [part, hs, h3], h2, h4, ?_⟩
        cases hq : eqCell kd x y with
        | none => simp [hq] at he
        | some q => simpa [hq] using he
      · simp at he
    have hnone : ∀ {dd : TypeDesc}, P.underlying t = some dd → (match dd with | .struct _ | .array _ _ => true | _ => false) = false → n = none := by
      intro dd hu hf
      unfold shapeO aggT at hn
      rw [hu] at hn
      simp only [Option.map_some, Option.bind_some, Option.bind_eq_some_iff] at hn
      obtain ⟨m, _, hm⟩ := hn
      cases dd <;> simp_all
    unfold leavesOf at h
    split at h
    · rename_i hu
      injection h with h
      obtain ⟨x, y, rx, ry, h1, h2, h3, h4, h5⟩ := hscal .b h.symm (hnone hu rfl)
      refine ⟨rx, ry, h1, h2, ?_⟩
      unfold eqCell at h5
      split at h5 <;> simp_all
      obtain rfl := h3.sc_inv
      obtain rfl := h4.sc_inv
      rw [run_equalIn_bool' w d t _ _ hu]
      simp_all
    · rename_i kk hu
      injection h with h
      obtain ⟨x, y, rx, ry, h1, h2, h3, h4, h5⟩ := hscal .i h.symm (hnone hu rfl)
      refine ⟨rx, ry, h1, h2, ?_⟩
      unfold eqCell at h5
      split at h5 <;> simp_all
      obtain rfl := h3.sc_inv
      obtain rfl := h4.sc_inv
      obtain ⟨rfl, h5⟩ := h5
      rw [run_equalIn_int w d t _ _ _ _ hu]
      simp_all
    · rename_i hu
      injection h with h
      obtain ⟨x, y, rx, ry, h1, h2, h3, h4, h5⟩ := hscal .s h.symm (hnone hu rfl)
      refine ⟨rx, ry, h1, h2, ?_⟩
      unfold eqCell at h5
      split at h5 <;> simp_all
      obtain rfl := h3.sc_inv
      obtain rfl := h4.sc_inv
      rw [run_equalIn_string w d t _ _ hu, ← beq_toListBytes]
      simp_all
    · rename_i fs hu
      split at h
      · simp at h
      · rename_i hst
        have hst' : P.stoodInHeld t = false := by simpa using hst
        obtain ⟨m, rfl⟩ : ∃ m, n = some m := by
          unfold shapeO aggT at hn
          rw [hu] at hn
          simp only [Option.map_some, Option.bind_some, Option.bind_eq_some_iff, if_true] at hn
          obtain ⟨m, _, hm⟩ := hn
          injection hm with hm
          exact ⟨m, hm.symm⟩
        refine ⟨.agg (rxs.extract o (o + m)), .agg (rys.extract o (o + m)), by simp [part, hs.1, hs.2], by simp [part, hs.1, hs.2], ?_⟩
        have hfo : P.fieldsOf t = fs := by unfold Program.fieldsOf; rw [hu]
        rw [run_equalIn_struct w d t _ _ (by rw [hfo]; exact hu) hst', hfo]
        rw [eqLeaves_shift xs ys o m ls (by simpa using hall)] at he
        have hX := RepV.take hx o m
        have hY := RepV.take hy o m
        simp only [RepV] at hX hY
        obtain ⟨r1, e1, hX⟩ := hX
        obtain ⟨r2, e2, hY⟩ := hY
        injection e1 with e1
        injection e2 with e2
        subst e1
        subst e2
        generalize (xs.drop o).take m = xs' at *
        generalize (ys.drop o).take m = ys' at *
        generalize rxs.extract o (o + m) = rxs' at *
        generalize rys.extract o (o + m) = rys' at *
        clear hall hn hscal hnone hfo hu hs hst hst'
        generalize fs.toList = fl at h
        induction fl generalizing ls res with
        | nil => 
          simp only [leavesFs, Option.some.injEq] at h
          subst h
          simp only [eqLeaves, Option.some.injEq] at he
          subst he
          simp [Op.eqFields]
        | cons f fl ih =>
          unfold leavesFs at h
          unfold Op.eqFields
          split at h
          · rename_i hname
            rw [if_neg (by simpa using hname)]
            exact ih _ _ he h
          · rename_i hname
            rw [if_pos hname]
            simp only [Option.bind_eq_some_iff] at h
            obtain ⟨l, hl, n', hn', h⟩ := h
            split at h
            · rename_i hal
              simp only [Option.map_eq_some_iff] at h
              obtain ⟨l2, hl2, rfl⟩ := h
              rw [eqLeaves_append] at he
              simp only [Option.bind_eq_some_iff, Option.map_eq_some_iff] at he
              obtain ⟨q1, hq1, q2, hq2, rfl⟩ := he
              obtain ⟨a, b, ha, hb, hab⟩ := eq_run w k d (by omega) hl hn' hal hX hY hq1
              simp only [Sem.run_bind, ha, hb, hab, Result.andThen_ok, Sem.run_ite]
              cases q1
              · simp
              · simpa using ih _ _ hq2 hl2
            · simp at h
    · simp at h

end
end Go.Am
end
section
/- Am: nil; fields; indexes; pieces of slices and strings. -/
namespace Go.Am
section
variable {P : Program} {G : Tie} {w : World}

def NK.nilV : NK → Value
  | .ptr => .pointer none
  | .func => .nilFunc
  | .iface => .nilIface
  | .map => .map none
  | .slice => .slice none 0 0

theorem nil_ptr {t e : TypeId} {x : V} {rx : Value} {b : Bool} (ht : P.underlying t = some (.pointer e)) (hx : RepV G x rx) (hb : isNil .ptr x = some b) (m : Nat) :
    (Op.equalIn (m + 1) t rx (.pointer none)).run P w = .ok b w ∧ (Op.equalIn (m + 1) t (.pointer none) rx).run P w = .ok b w := by
  have key : ∀ p : Option Addr, (Op.equalIn (m + 1) t (.pointer p) (.pointer none)).run P w = .ok p.isNone w ∧ (Op.equalIn (m + 1) t (.pointer none) (.pointer p)).run P w = .ok p.isNone w := by
    intro p
    cases p <;> simp only [Op.equalIn, Sem.run_bind, run_underlying ht w, Result.andThen_ok] <;> exact ⟨rfl, rfl⟩
  obtain ⟨p, rfl, rfl⟩ : ∃ p, rx = .pointer p ∧ b = p.isNone := by
    unfold isNil at hb
    split at hb <;> first | (simp at hb; done) | skip
    all_goals (injection hb with hb; subst hb)
    all_goals simp_all only [reduceCtorEq, RepV]
    · obtain ⟨rfl, _⟩ := hx; exact ⟨none, rfl, rfl⟩
    · obtain ⟨_, rfl⟩ := hx; exact ⟨_, rfl, rfl⟩
    · obtain ⟨_, a, rfl, _⟩ := hx; exact ⟨_, rfl, rfl⟩
    · obtain ⟨_, o, rfl, _⟩ := hx; exact ⟨_, rfl, rfl⟩
  exact key p

theorem nil_func {t : TypeId} {ps rs : Array TypeId} {vd : Bool} {x : V} {rx : Value} {b : Bool} (ht : P.underlying t = some (.func ps rs vd)) (hx : RepV G x rx) (hb : isNil .func x = some b) (m : Nat) :
    (Op.equalIn (m + 1) t rx .nilFunc).run P w = .ok b w ∧ (Op.equalIn (m + 1) t .nilFunc rx).run P w = .ok b w := by
  unfold isNil at hb
  split at hb <;> first | (simp at hb; done) | skip
  all_goals (injection hb with hb; subst hb)
  all_goals simp_all only [reduceCtorEq, RepV]
  · obtain ⟨rfl, _⟩ := hx
    simp only [Op.equalIn, Sem.run_bind, run_underlying ht w, Result.andThen_ok]
    exact ⟨rfl, rfl⟩
  · obtain ⟨ra, rc, rfl, _⟩ := hx
    simp only [Op.equalIn, Sem.run_bind, run_underlying ht w, Result.andThen_ok]
    exact ⟨rfl, rfl⟩

theorem nil_iface {t : TypeId} {ms : Array (String × TypeId)} {x : V} {rx : Value} {b : Bool} (ht : P.underlying t = some (.interface ms)) (hx : RepV G x rx) (hb : isNil .iface x = some b) (m : Nat) :
    (Op.equalIn (m + 1) t rx .nilIface).run P w = .ok b w ∧ (Op.equalIn (m + 1) t .nilIface rx).run P w = .ok b w := by
  unfold isNil at hb
  split at hb <;> first | (simp at hb; done) | skip
  all_goals (injection hb with hb; subst hb)
  all_goals simp_all only [reduceCtorEq, RepV]
  · obtain ⟨rfl, _⟩ := hx
    simp only [Op.equalIn, Sem.run_bind, run_underlying ht w, Result.andThen_ok]
    exact ⟨rfl, rfl⟩
  · obtain ⟨rv, rfl, _⟩ := hx
    simp only [Op.equalIn, Sem.run_bind, run_underlying ht w, Result.andThen_ok]
    exact ⟨rfl, rfl⟩

theorem nil_map {t k e : TypeId} {x : V} {rx : Value} {b : Bool} (ht : P.underlying t = some (.map k e)) (hx : RepV G x rx) (hb : isNil .map x = some b) (m : Nat) :
    (Op.equalIn (m + 1) t rx (.map none)).run P w = .ok b w ∧ (Op.equalIn (m + 1) t (.map none) rx).run P w = .ok b w := by
  unfold isNil at hb
  split at hb <;> first | (simp at hb; done) | skip
  all_goals (injection hb with hb; subst hb)
  all_goals simp_all only [reduceCtorEq, RepV]
  · obtain ⟨rfl, _⟩ := hx
    simp only [Op.equalIn, Sem.run_bind, run_underlying ht w, Result.andThen_ok]
    exact ⟨rfl, rfl⟩
  · obtain ⟨_, rfl⟩ := hx
    simp only [Op.equalIn, Sem.run_bind, run_underlying ht w, Result.andThen_ok]
    exact ⟨rfl, rfl⟩

theorem nil_slice {t e : TypeId} {x : V} {rx : Value} {b : Bool} (ht : P.underlying t = some (.slice e)) (hx : RepV G x rx) (hb : isNil .slice x = some b) (m : Nat) :
    (Op.equalIn (m + 1) t rx (.slice none 0 0)).run P w = .ok b w ∧ (Op.equalIn (m + 1) t (.slice none 0 0) rx).run P w = .ok b w := by
  have key : ∀ (p : Option Addr) (l c : Nat), (Op.equalIn (m + 1) t (.slice p l c) (.slice none 0 0)).run P w = .ok p.isNone w ∧ (Op.equalIn (m + 1) t (.slice none 0 0) (.slice p l c)).run P w = .ok p.isNone w := by
    intro p l c
    cases p <;> simp only [Op.equalIn, Sem.run_bind, run_underlying ht w, Result.andThen_ok] <;> exact ⟨rfl, rfl⟩
  obtain ⟨p, l, c, rfl, rfl⟩ : ∃ p l c, rx = .slice p l c ∧ b = p.isNone := by
    unfold isNil at hb
    split at hb <;> first | (simp at hb; done) | skip
    all_goals (injection hb with hb; subst hb)
    all_goals simp_all only [reduceCtorEq, RepV]
    · obtain ⟨rfl, _⟩ := hx; exact ⟨none, 0, 0, rfl, rfl⟩
    · obtain ⟨_, a, c, rfl, _⟩ := hx; exact ⟨_, _, _, rfl, rfl⟩
    · obtain ⟨a, c, rfl, _, _, _, b, o, ha, _, _⟩ := hx; rw [ha (by simp)]; exact ⟨_, _, _, rfl, rfl⟩
  exact key p l c


/-- A comparison with nil. -/
theorem isNil_run {t : TypeId} {d : TypeDesc} {k : NK} {x : V} {rx : Value} {b neg : Bool} (ht : P.underlying t = some d) (hk : nkOf d = some k) (hx : RepV G x rx) (hb : isNil k x = some b)
    (ox oy : Operand) (hc : (∃ v, ox = .const v) ∨ (∃ v, oy = .const v)) :
    (do eqGuard (if neg then .neq else .eql) t ox oy rx k.nilV; binOp (if neg then .neq else .eql) t rx k.nilV : Sem Value).run P w = .ok (.bool (if neg then !b else b)) w ∧
    (do eqGuard (if neg then .neq else .eql) t ox oy k.nilV rx; binOp (if neg then .neq else .eql) t k.nilV rx : Sem Value).run P w = .ok (.bool (if neg then !b else b)) w := by
  have hE : (Op.equal t rx k.nilV).run P w = .ok b w ∧ (Op.equal t k.nilV rx).run P w = .ok b w := by
    cases d <;> simp only [nkOf, Option.some.injEq, reduceCtorEq] at hk <;> subst hk
    · exact nil_ptr ht hx hb 9999
    · exact nil_slice ht hx hb 9999
    · exact nil_map ht hx hb 9999
    · exact nil_func ht hx hb 9999
    · exact nil_iface ht hx hb 9999
  have hshape : (∃ p, rx = .pointer p) ∨ rx = .nilFunc ∨ (∃ f a c, rx = .func f a c) ∨ rx = .nilIface ∨ (∃ u v, rx = .iface u v) ∨ (∃ r, rx = .map r) ∨ (∃ p l c, rx = .slice p l c) := by
    unfold isNil at hb
    split at hb <;> first | (simp at hb; done) | skip
    all_goals simp only [RepV] at hx
    · exact .inl ⟨_, hx.1⟩
    · exact .inr (.inl hx.1)
    · exact .inr (.inr (.inr (.inl hx.1)))
    · exact .inr (.inr (.inr (.inr (.inr (.inl ⟨_, hx.1⟩)))))
    · exact .inr (.inr (.inr (.inr (.inr (.inr ⟨_, _, _, hx.1⟩)))))
    · exact .inl ⟨_, hx.2⟩
    · obtain ⟨_, a, e, _⟩ := hx; exact .inl ⟨_, e⟩
    · obtain ⟨_, o, e, _⟩ := hx; exact .inl ⟨_, e⟩
    · obtain ⟨ra, rc, e, _⟩ := hx; exact .inr (.inr (.inl ⟨_, _, _, e⟩))
    · obtain ⟨rv, e, _⟩ := hx; exact .inr (.inr (.inr (.inr (.inl ⟨_, _, e⟩))))
    · exact .inr (.inr (.inr (.inr (.inr (.inl ⟨_, hx.2⟩)))))
    · obtain ⟨_, a, c, e, _⟩ := hx; exact .inr (.inr (.inr (.inr (.inr (.inr ⟨_, _, _, e⟩)))))
    · obtain ⟨a, c, e, _⟩ := hx; exact .inr (.inr (.inr (.inr (.inr (.inr ⟨_, _, _, e⟩)))))
  have hG : ∀ (op : BinOp), (eqGuard op t ox oy rx k.nilV).run P w = .ok () w ∧ (eqGuard op t ox oy k.nilV rx).run P w = .ok () w := by
    intro op
    unfold eqGuard
    rcases hc with ⟨v, rfl⟩ | ⟨v, rfl⟩ <;> rcases hshape with ⟨p, rfl⟩ | rfl | ⟨f, a, c, rfl⟩ | rfl | ⟨u, v, rfl⟩ | ⟨r, rfl⟩ | ⟨p, l, c, rfl⟩ <;> cases k <;> cases op <;>
      first | exact ⟨rfl, rfl⟩ | (simp [NK.nilV]; done)
  have hB : ∀ (p q : Value), (p = rx ∧ q = k.nilV ∨ p = k.nilV ∧ q = rx) → (Op.equal t p q).run P w = .ok b w → (binOp .eql t p q).run P w = .ok (.bool b) w ∧ (binOp .neq t p q).run P w = .ok (.bool !b) w := by
    intro p q hpq he
    have h1 : binOp .eql t p q = (do pure (.bool (← Op.equal t p q))) ∧ binOp .neq t p q = (do pure (.bool (!(← Op.equal t p q)))) := by
      rcases hpq with ⟨rfl, rfl⟩ | ⟨rfl, rfl⟩ <;> rcases hshape with ⟨p, rfl⟩ | rfl | ⟨f, a, c, rfl⟩ | rfl | ⟨u, v, rfl⟩ | ⟨r, rfl⟩ | ⟨p, l, c, rfl⟩ <;> cases k <;> exact ⟨rfl, rfl⟩
    rw [h1.1, h1.2]
    simp only [Sem.run_bind, he, Result.andThen_ok]
    exact ⟨rfl, rfl⟩
  constructor
  · simp only [Sem.run_bind, (hG _).1, Result.andThen_ok]
    cases neg
    · exact (hB _ _ (.inl ⟨rfl, rfl⟩) hE.1).1
    · exact (hB _ _ (.inl ⟨rfl, rfl⟩) hE.1).2
  · simp only [Sem.run_bind, (hG _).2, Result.andThen_ok]
    cases neg
    · exact (hB _ _ (.inr ⟨rfl, rfl⟩) hE.2).1
    · exact (hB _ _ (.inr ⟨rfl, rfl⟩) hE.2).2

end
end Go.Am
end
section
/- Am: '==' of structs, whole; fields; indexes; pieces of slices and strings. -/
namespace Go.Am
section
variable {P : Program} {G : Tie} {w : World}

theorem eqGuardType_false : ∀ (k d : Nat) {t : TypeId} {ls : List (Nat × LK)}, k ≤ d → leavesOf P k t = some ls → P.eqGuardType d t = false
  | 0, _, _, _, _, h => by simp [leavesOf] at h
  | k + 1, d, t, ls, hd, h => by
    obtain ⟨d, rfl⟩ : ∃ m, d = m + 1 := ⟨d - 1, by omega⟩
    unfold leavesOf at h
    split at h
    · rename_i hu; simp [Program.eqGuardType, hu]
    · rename_i hu; simp [Program.eqGuardType, hu]
    · rename_i hu; simp [Program.eqGuardType, hu]
    · rename_i fs hu
      split at h
      · simp at h
      · simp only [Program.eqGuardType, hu]
        rw [← Array.any_toList]
        clear hu
        generalize fs.toList = fl at h
        induction fl generalizing ls with
        | nil => rfl
        | cons f fl ih =>
          unfold leavesFs at h
          simp only [List.any_cons, Bool.or_eq_false_iff]
          split at h
          · rename_i hn
            exact ⟨by simp [hn], ih _ h⟩
          · simp only [Option.bind_eq_some_iff] at h
            obtain ⟨l, hl, n, hn, h⟩ := h
            split at h
            · simp only [Option.map_eq_some_iff] at h
              obtain ⟨l2, hl2, _⟩ := h
              refine ⟨?_, ih _ hl2⟩
              rw [eqGuardType_false k d (by omega) hl]
              simp
            · simp at h
    · simp at h

theorem eqAgg_run {t : TypeId} {fs : Array Field} {ls : List (Nat × LK)} {xs ys : List V} {rx ry : Value} {res neg : Bool} {ox oy : Operand} (ht : P.underlying t = some (.struct fs)) (hl : leavesOf P 8 t = some ls)
    (hx : RepV G (.agg xs) rx) (hy : RepV G (.agg ys) ry) (h : eqLeaves xs ys ls = some res) :
    (do eqGuard (if neg then .neq else .eql) t ox oy rx ry; binOp (if neg then .neq else .eql) t rx ry : Sem Value).run P w = .ok (.bool (if neg then !res else res)) w := by
  simp only [RepV] at hx hy
  obtain ⟨rxs, rfl, hx⟩ := hx
  obtain ⟨rys, rfl, hy⟩ := hy
  have hg := run_eqGuard_agg (P := P) w (if neg then .neq else .eql) t ox oy rxs rys (eqGuardType_false 8 P.depth (by unfold Program.depth Made.depth; omega) hl)
  have hst : P.stoodInHeld t = false := by
    unfold leavesOf at hl
    rw [ht] at hl
    simp only at hl
    split at hl
    · simp at hl
    · rename_i h; simpa using h
  have hfo : P.fieldsOf t = fs := by unfold Program.fieldsOf; rw [ht]
  have hE : (Op.equalIn 10000 t (.agg rxs) (.agg rys)).run P w = .ok res w := by
    rw [run_equalIn_struct w 9999 t _ _ (by rw [hfo]; exact ht) hst, hfo]
    unfold leavesOf at hl
    rw [ht] at hl
    simp only [hst, Bool.false_eq_true, if_false] at hl
    clear hfo hst hg ht
    generalize fs.toList = fl at hl
    induction fl generalizing ls res with
    | nil =>
      simp only [leavesFs, Option.some.injEq] at hl
      subst hl
      simp only [eqLeaves, Option.some.injEq] at h
      subst h
      simp [Op.eqFields]
    | cons f fl ih =>
      unfold leavesFs at hl
      unfold Op.eqFields
      split at hl
      · rename_i hname
        rw [if_neg (by simpa using hname)]
        exact ih h hl
      · rename_i hname
        rw [if_pos hname]
        simp only [Option.bind_eq_some_iff] at hl
        obtain ⟨l, hl1, n', hn', hl⟩ := hl
        split at hl
        · rename_i hal
          simp only [Option.map_eq_some_iff] at hl
          obtain ⟨l2, hl2, rfl⟩ := hl
          rw [eqLeaves_append] at h
          simp only [Option.bind_eq_some_iff, Option.map_eq_some_iff] at h
          obtain ⟨q1, hq1, q2, hq2, rfl⟩ := h
          obtain ⟨a, b, ha, hb, hab⟩ := eq_run w 7 9999 (by omega) hl1 hn' hal hx hy hq1
          simp only [Sem.run_bind, ha, hb, hab, Result.andThen_ok, Sem.run_ite]
          cases q1
          · simp
          · simpa using ih hq2 hl2
        · simp at hl
  simp only [Sem.run_bind, hg, Result.andThen_ok]
  cases neg
  · simp only [Bool.false_eq_true, if_false]
    rw [run_eql_struct, hE]
    rfl
  · simp only [if_true]
    rw [run_neq_struct, hE]
    rfl

theorem fieldAddr_run {t : TypeId} {fs : Array Field} {f : Field} {i s : Nat} {x v : V} {rx : Value} (ht : P.underlying t = some (.struct fs)) (hf : fs[i]? = some f) (hs : sizeO P f.type = some s) (hpos : 0 < s)
    (hx : RepV G x rx) (h : moveV f.offset x = some v) :
    ∃ r, (Instr.fieldAt t rx i).run P w = .ok r w ∧ RepV G v r := by
  have hsz : (sizeOf f.type).run P w = .ok s w := by
    simp only [sizeO, Option.map_eq_some_iff] at hs
    obtain ⟨i, hi, hm⟩ := hs
    simp [sizeOf, typeInfo, hi, hm]
  have key0 : ∀ a : Addr, (Instr.fieldAt t (.pointer (some a)) i).run P w = .ok (.pointer (some (a.add f.offset))) w := by
    intro a
    simp [Instr.fieldAt, run_underlying ht w, hf, Instr.sureAddr, fieldPlace, hsz, show s ≠ 0 by omega]
  have key : ∀ b o, (Instr.fieldAt t (.pointer (some ⟨b, o, none⟩)) i).run P w = .ok (.pointer (some ⟨b, o + f.offset, none⟩)) w := by
    intro b o
    rw [key0, add_none]
  cases x <;> simp only [moveV, reduceCtorEq] at h
  · injection h with h; subst h
    simp only [RepV] at hx
    obtain ⟨hb, rfl⟩ := hx
    exact ⟨_, key _ _, by simp only [RepV]; exact ⟨hb, trivial⟩⟩
  · injection h with h; subst h
    simp only [RepV] at hx
    obtain ⟨hb, a, rfl, ha⟩ := hx
    refine ⟨_, key0 a, ?_⟩
    simp only [RepV]
    refine ⟨hb, _, rfl, fun L hL => ⟨(ha L hL).1, fun he => ?_⟩⟩
    rw [(ha L hL).2 he, add_none, Nat.add_assoc]
  · injection h with h; subst h
    simp only [RepV] at hx
    obtain ⟨b, o, rfl, hg, hF⟩ := hx
    refine ⟨_, key _ _, ?_⟩
    simp only [RepV]
    exact ⟨b, o, by rw [Nat.add_assoc], hg, hF⟩

theorem sizeO_run {t : TypeId} {s : Nat} (hs : sizeO P t = some s) (w : World) : (sizeOf t).run P w = .ok s w := by
  simp only [sizeO, Option.map_eq_some_iff] at hs
  obtain ⟨i, hi, hm⟩ := hs
  simp [sizeOf, typeInfo, hi, hm]

theorem field_run {t : TypeId} {fs : Array Field} {f : Field} {i : Nat} {n : Option Nat} {cs : List V} {v : V} {rx : Value} (ht : P.underlying t = some (.struct fs)) (hf : fs[i]? = some f) (hn : shapeO P f.type = some n)
    (hx : RepV G (.agg cs) rx) (h : cutCells n cs f.offset = some v) : ∃ r, (Instr.field t rx i).run P w = .ok r w ∧ RepV G v r := by
  simp only [RepV] at hx
  obtain ⟨rs, rfl, hx⟩ := hx
  obtain ⟨r, h1, h2⟩ := part_run (P := P) (w := w) hn hx h
  exact ⟨r, by simp [Instr.field, run_underlying ht w, hf, asAgg, h1], h2⟩

theorem idxArr_run {t e : TypeId} {m : Nat} {n : Option Nat} {s : Nat} {cs : List V} {v x : V} {rx ri : Value} {k : Nat} (ht : P.underlying t = some (.array m e)) (hn : shapeO P e = some n) (hs : sizeO P e = some s)
    (hx : RepV G (.agg cs) rx) (hi : RepV G x ri) (hk : asNat? x = some k) (hlt : k < m) (h : cutCells n cs (k * s) = some v) : ∃ r, (Instr.index t rx ri).run P w = .ok r w ∧ RepV G v r := by
  obtain ⟨kk, i, rfl, h0, rfl⟩ := asNat_run hi hk
  simp only [RepV] at hx
  obtain ⟨rs, rfl, hx⟩ := hx
  obtain ⟨r, h1, h2⟩ := part_run (P := P) (w := w) hn hx h
  refine ⟨r, ?_, h2⟩
  have : 0 ≤ i ∧ i < (m : Int) := ⟨h0, by omega⟩
  simp [Instr.index, asIntOf, run_underlying ht w, this, sizeO_run hs w, h1]

theorem idxStr_run {t : TypeId} {s : ByteArray} {x : V} {rx ri : Value} {k : Nat} {c : UInt8} (ht : P.underlying t = some .string) (hx : RepV G (.sc (.string s)) rx) (hi : RepV G x ri) (hk : asNat? x = some k) (h : s[k]? = some c) :
    (Instr.index t rx ri).run P w = .ok (.int .u8 c.toNat) w := by
  obtain ⟨kk, i, rfl, h0, rfl⟩ := asNat_run hi hk
  obtain rfl := hx.sc_inv
  simp [Instr.index, asIntOf, run_underlying ht w, h0, h]

theorem indexA_run {t e : TypeId} {m s k : Nat} {x v y : V} {rx ri : Value} (ht : P.underlying t = some (.array m e)) (hs : sizeO P e = some s) (hx : RepV G x rx) (hi : RepV G y ri) (hk : asNat? y = some k) (hlt : k < m)
    (h : moveV (k * s) x = some v) :
    ∃ r, (Instr.indexAt t rx ri).run P w = .ok r w ∧ RepV G v r := by
  obtain ⟨kk, i, rfl, h0, rfl⟩ := asNat_run hi hk
  have hlt' : 0 ≤ i ∧ i < (m : Int) := ⟨h0, by omega⟩
  have key0 : ∀ a : Addr, (Instr.indexAt t (.pointer (some a)) (.int kk i)).run P w = .ok (.pointer (some (a.add (i.toNat * s)))) w := by
    intro a
    simp [Instr.indexAt, asIntOf, run_underlying ht w, Instr.sureAddr, hlt', sizeO_run hs w]
  cases x <;> simp only [moveV, reduceCtorEq] at h
  · injection h with h; subst h
    simp only [RepV] at hx
    obtain ⟨hb, rfl⟩ := hx
    exact ⟨_, key0 _, by simp only [RepV, add_none]; exact ⟨hb, trivial⟩⟩
  · injection h with h; subst h
    simp only [RepV] at hx
    obtain ⟨hb, a, rfl, ha⟩ := hx
    refine ⟨_, key0 a, ?_⟩
    simp only [RepV]
    refine ⟨hb, _, rfl, fun L hL => ⟨(ha L hL).1, fun he => ?_⟩⟩
    rw [(ha L hL).2 he, add_none, Nat.add_assoc]
  · injection h with h; subst h
    simp only [RepV] at hx
    obtain ⟨b, o, rfl, hg, hF⟩ := hx
    refine ⟨_, key0 _, ?_⟩
    simp only [RepV, add_none]
    exact ⟨b, o, by rw [Nat.add_assoc], hg, hF⟩

theorem indexS_run {h : Heap} (R : Rel G h w) {t e : TypeId} {s k : Nat} {x v y : V} {rx ri : Value} (ht : P.underlying t = some (.slice e)) (hs : sizeO P e = some s) (hx : RepV G x rx) (hi : RepV G y ri) (hk : asNat? y = some k)
    (hv : indexV h s k x = some v) :
    ∃ r, (Instr.indexAt t rx ri).run P w = .ok r w ∧ RepV G v r := by
  obtain ⟨kk, i, rfl, h0, rfl⟩ := asNat_run hi hk
  have key0 : ∀ (a : Addr) (len cap : Nat), i.toNat < len → (Instr.indexAt t (.slice (some a) len cap) (.int kk i)).run P w = .ok (.pointer (some (a.add (i.toNat * s)))) w := by
    intro a len cap hl
    have hlt' : 0 ≤ i ∧ i < (len : Int) := ⟨h0, by omega⟩
    simp [Instr.indexAt, asIntOf, run_underlying ht w, hlt', sizeO_run hs w]
  cases x <;> simp only [indexV, reduceCtorEq] at hv
  · split at hv
    · rename_i hz
      subst hz
      simp only [Option.map_eq_some_iff] at hv
      obtain ⟨cs, hcs, rfl⟩ := hv
      simp only [RepV] at hx
      obtain ⟨a, cap, rfl, hl, he, hg, b, o, ha, _, hR⟩ := hx
      have hlt := (List.getElem?_eq_some_iff.1 hcs).1
      have hne : _ ≠ [] := List.ne_nil_of_length_pos (Nat.lt_of_le_of_lt (Nat.zero_le _) hlt)
      rw [ha hne]
      refine ⟨_, key0 _ _ _ hlt, ?_⟩
      obtain ⟨_, hF⟩ := hR.get hcs
      simp only [RepV, add_none]
      refine ⟨_, _, rfl, ?_, hF⟩
      rw [List.all_eq_true] at hg
      exact hg cs (List.mem_of_getElem? hcs)
    · simp at hv
  · split at hv
    · rename_i z rs hr
      split at hv
      · rename_i hc
        obtain ⟨rfl, hkl, hol⟩ := hc
        injection hv with hv; subst hv
        simp only [RepV] at hx
        obtain ⟨hb, a, cap, rfl, hL⟩ := hx
        refine ⟨_, key0 _ _ _ hkl, ?_⟩
        simp only [RepV]
        refine ⟨hb, _, rfl, fun L hL' => ⟨(hL L hL').1, fun he => ?_⟩⟩
        obtain ⟨_, _, _, L2, _, hL2, _, hLs, _⟩ := R.rowAt hr
        rw [hL'] at hL2
        injection hL2 with hL2
        subst hL2
        have h3 := (hL L hL').2 he
        rw [h3.2.2 (by omega), add_none, hLs, Nat.add_mul]
        rfl
      · simp at hv
    · simp at hv

theorem nilCheck_run {h : Heap} {v : V} {h' : Heap} {ρ : Operand → Value} {o : Oper} {ox : Operand} {ax : Opd} {en : Env} {base : Nat} (ho : o.op = .nilCheck ox) (hx : RepV G (ax.get en) (ρ ox)) (hs : step base en h (.nilCheck ax) = some (v, h')) :
    (execOp ρ o).run P w = .ok (.value (ρ ox)) w ∧ RepV G v (ρ ox) ∧ h' = h := by
  unfold execOp
  simp only [ho]
  simp only [step] at hs
  generalize hq : ax.get en = q at hs hx
  cases q <;> first | (simp only [reduceCtorEq] at hs; done) | skip
  · injection hs with hs
    simp only [Prod.mk.injEq] at hs
    obtain ⟨rfl, rfl⟩ := hs
    refine ⟨?_, hx, rfl⟩
    simp only [RepV] at hx
    rw [hx.2]
    rfl
  · injection hs with hs
    simp only [Prod.mk.injEq] at hs
    obtain ⟨rfl, rfl⟩ := hs
    refine ⟨?_, hx, rfl⟩
    simp only [RepV] at hx
    obtain ⟨_, a, hr, _⟩ := hx
    rw [hr]
    rfl
  · injection hs with hs
    simp only [Prod.mk.injEq] at hs
    obtain ⟨rfl, rfl⟩ := hs
    refine ⟨?_, hx, rfl⟩
    simp only [RepV] at hx
    obtain ⟨b, oo, hr, _⟩ := hx
    rw [hr]
    rfl
  · rename_i f a c
    cases f <;> first | (simp only [reduceCtorEq] at hs; done) | skip
    injection hs with hs
    simp only [Prod.mk.injEq] at hs
    obtain ⟨rfl, rfl⟩ := hs
    refine ⟨?_, hx, rfl⟩
    simp only [RepV] at hx
    obtain ⟨ra, rc, hr, _⟩ := hx
    rw [hr]
    rfl

end
end Go.Am
end
section
/- Am: pieces of slices and strings; lengths; conversions of bytes. -/
namespace Go.Am
section
variable {P : Program} {G : Tie} {w : World}

/-- A bound of a slice expression, in the machine. -/
def OB (d : Nat) (o : Option Value) (n : Nat) : Prop := (o = none ∧ n = d) ∨ ∃ k i, o = some (.int k i) ∧ 0 ≤ i ∧ i.toNat = n

theorem sliceBound_run {k : IntKind} {i : Int} {y : Nat} {code : BoundsCode} (h0 : 0 ≤ i) (h1 : i.toNat ≤ y) : (Instr.sliceBound (.int k i) y code).run P w = .ok i.toNat w := by
  have : 0 ≤ i ∧ i ≤ (y : Int) := ⟨h0, by omega⟩
  simp [Instr.sliceBound, asIntOf, this]

theorem bounds_run {b : Bool} {len cap l e m : Nat} {low high mx : Option Value} (hl : OB 0 low l) (hh : OB len high e) (hm : OB cap mx m) (hn : high = none → mx = none) (h1 : l ≤ e) (h2 : e ≤ m) (h3 : m ≤ cap) :
    (Instr.sliceBounds b len cap low high mx).run P w = .ok (l, e, m) w := by
  unfold Instr.sliceBounds
  rcases hm with ⟨rfl, rfl⟩ | ⟨km, im, rfl, hm0, rfl⟩
  · rcases hh with ⟨rfl, rfl⟩ | ⟨kh, ih, rfl, hh0, rfl⟩
    · rcases hl with ⟨rfl, rfl⟩ | ⟨kl, il, rfl, hl0, rfl⟩
      · simp
      · simp [sliceBound_run hl0 h1]
    · rcases hl with ⟨rfl, rfl⟩ | ⟨kl, il, rfl, hl0, rfl⟩
      · simp [sliceBound_run hh0 h2]
      · simp [sliceBound_run hl0 h1, sliceBound_run hh0 h2]
  · rcases hh with ⟨rfl, rfl⟩ | ⟨kh, ih, rfl, hh0, rfl⟩
    · simp at hn
    · rcases hl with ⟨rfl, rfl⟩ | ⟨kl, il, rfl, hl0, rfl⟩
      · simp [sliceBound_run hm0 h3, sliceBound_run hh0 h2]
      · simp [sliceBound_run hm0 h3, sliceBound_run hl0 h1, sliceBound_run hh0 h2]

theorem slice_run_raw {t e : TypeId} {s len cap l h m : Nat} {a : Option Addr} {low high mx : Option Value} (ht : P.underlying t = some (.slice e)) (hs : sizeO P e = some s) (hl : OB 0 low l) (hh : OB len high h) (hm : OB cap mx m)
    (hn : high = none → mx = none) (h1 : l ≤ h) (h2 : h ≤ m) (h3 : m ≤ cap) :
    (Instr.sliceAt t (.slice a len cap) low high mx).run P w = .ok (.slice (if m = l then a else a.map (·.add (l * s))) (h - l) (m - l)) w := by
  simp [Instr.sliceAt, Instr.slice, run_underlying ht w, bounds_run hl hh hm hn h1 h2 h3, sizeO_run hs w]

theorem sliceV_run {h h' : Heap} (R : Rel G h w) {t e : TypeId} {s l : Nat} {hi mx : Option Nat} {x v : V} {rx : Value} {low high rmx : Option Value} (ht : P.underlying t = some (.slice e)) (hs : sizeO P e = some s)
    (hx : RepV G x rx) (hl : OB 0 low l) (hh : ∀ d, OB d high (hi.getD d)) (hm : ∀ d, OB d rmx (mx.getD d)) (hn : high = none → rmx = none) (hmx : mx = none ↔ rmx = none) (hn' : hi = none → mx = none)
    (hv : sliceV h s x l hi mx = some (v, h')) :
    ∃ r G', (Instr.sliceAt t rx low high rmx).run P w = .ok r w ∧ Ext G G' ∧ Rel G' h' w ∧ RepV G' v r := by
  unfold sliceV at hv
  split at hv
  · rename_i ex z rs
    simp only [RepV] at hx
    obtain ⟨a, cap, rfl, hlc, hex, hg, b, o, ha, _, hR⟩ := hx
    split at hv
    · rename_i hc
      obtain ⟨hz, h1, h2, h3, h4⟩ := hc
      injection hv with hv
      simp only [Prod.mk.injEq] at hv
      obtain ⟨rfl, rfl⟩ := hv
      have hmc : mx.getD cap ≤ cap := by
        cases mx with
        | none => simp
        | some m => simp at h3 ⊢; omega
      have hem : hi.getD rs.length ≤ mx.getD cap := by
        cases mx with
        | none => simp; omega
        | some m => simp at h4 ⊢; omega
      refine ⟨_, G, slice_run_raw ht hs hl (hh _) (hm _) hn h1 hem hmc, Ext.refl G, R, ?_⟩
      generalize hE : hi.getD rs.length = E at *
      have hlen : ((rs.drop l).take (E - l)).length = E - l := by simp; omega
      simp only [RepV]
      refine ⟨_, _, by rw [hlen], by rw [hlen]; omega, ?_, ?_, b, o + l * z, ?_, ?_, ?_⟩
      · intro hx
        rw [hlen]
        cases mx with
        | none =>
          have hx' : ex.isFull = true ∧ E = rs.length := by
            simp only [exTo] at hx
            split at hx
            · rename_i hq; simpa using hq
            · simp [Cp.isFull] at hx
          have := hex hx'.1
          simp
          omega
        | some m =>
          have hx' : m = E := by
            simp only [exTo] at hx
            split at hx
            · rename_i hq; simpa using hq
            · simp [Cp.isFull] at hx
          simp
          omega
      · rw [List.all_eq_true] at hg ⊢
        exact fun y hy => hg y (List.mem_of_mem_drop (List.mem_of_mem_take hy))
      · intro hne
        have hlt : l < E := by
          rcases Nat.lt_or_ge l E with h | h
          · exact h
          · exfalso; apply hne; rw [show E - l = 0 by omega]; rfl
        have hrs : rs ≠ [] := by
          rintro rfl
          simp at h2
          omega
        have hzs : z = s := by
          simp only [Bool.or_eq_true, beq_iff_eq] at hz
          rcases hz with hz | hz
          · exact absurd (List.isEmpty_iff.1 hz) hrs
          · exact hz
        rw [if_neg (by omega), ha hrs]
        simp [add_none, hzs]
      · intro hx
        exfalso
        unfold exTo at hx
        cases mx <;> simp only at hx <;> split at hx <;> cases hx
      · exact RepRows.of_get fun i cs hi' => by
          rw [List.getElem?_take] at hi'
          split at hi'
          · rw [List.getElem?_drop] at hi'
            have := hR.get hi'
            rwa [Nat.add_mul, ← Nat.add_assoc] at this
          · simp at hi'
    · simp at hv
  · rename_i b ep off len
    split at hv
    · rename_i hc
      obtain ⟨h1, h2⟩ := hc
      split at hv
      · rename_i ty z e' rs eq
        split at hv
        · rename_i hc
          obtain ⟨rfl, rfl⟩ := hc
          simp only [RepV] at hx
          obtain ⟨hb, a, cap, rfl, hLx⟩ := hx
          obtain ⟨hpos, L, rs', hL, hLe, hLs, hcp, hw, hsz, hB⟩ := R.row _ _ _ _ _ eq
          obtain ⟨hk1, hk2⟩ := hLx L hL
          obtain ⟨hlc, hoc, haa⟩ := hk2 hLe.symm
          split at hv
          · injection hv with hv
            simp only [Prod.mk.injEq] at hv
            obtain ⟨rfl, rfl⟩ := hv
            have hrm : rmx = none := hmx.1 rfl
            subst hrm
            refine ⟨_, G, slice_run_raw ht hs hl (hh _) (.inl ⟨rfl, rfl⟩) (fun _ => rfl) h1 (by omega) (Nat.le_refl _), Ext.refl G, R, ?_⟩
            simp only [RepV]
            refine ⟨hb, if cap = l then a else a.add (l * z), cap - l, ?_, ?_⟩
            · split <;> rfl
            · intro L' hL'
              rw [hL] at hL'
              injection hL' with hL'
              subst hL'
              refine ⟨hk1, fun _ => ⟨by omega, by omega, fun hc => ?_⟩⟩
              rw [if_neg (by omega), haa (by omega), add_none, hLs, Nat.add_mul]
          · rename_i m
            split at hv
            · rename_i hc
              obtain ⟨rfl, rfl, rfl, hlen⟩ := hc
              injection hv with hv
              simp only [Prod.mk.injEq] at hv
              obtain ⟨rfl, rfl⟩ := hv
              have hhi : hi ≠ none := fun e => by have := hn' e; simp at this
              obtain ⟨E, rfl⟩ := Option.ne_none_iff_exists'.1 hhi
              simp only [Option.getD_some] at h1 h2 hm hh ⊢
              have hstep : Rel (G.setRow b { L with e := e' + 1 }) (h.set b (.row ty z (e' + 1) (rs.take E))) w := by
                refine R.setRowAt (L' := { L with e := e' + 1 }) eq hL (by simp; omega) (by simp; omega) rfl hLs (by simp; omega) (.inl rfl) (Nat.le_refl _) (fun _ _ _ => rfl) hw (by simpa using hsz) ?_
                intro i cs hi'
                rw [List.getElem?_take] at hi'
                split at hi'
                · exact hB i cs hi'
                · simp at hi'
              refine ⟨_, _, slice_run_raw ht hs hl (hh _) (hm _) hn h1 (Nat.le_refl _) (by omega), Ext.setRow G b L _ hL (by simp; omega) (by simp; omega), hstep, ?_⟩
              simp only [RepV]
              refine ⟨hb, a, E, ?_, ?_⟩
              · simp [Addr.add]
              · intro L' hL'
                simp only [Tie.setRow, if_true, Option.some.injEq] at hL'
                subst hL'
                refine ⟨Nat.le_refl _, fun _ => ⟨Nat.le_refl _, by simp; omega, fun hc => ?_⟩⟩
                have := haa (by omega)
                simpa using this
            · simp at hv
        · simp at hv
      · simp at hv
    · simp at hv
  · rename_i n c
    split at hv
    · rename_i hc
      obtain ⟨rfl, rfl, rfl, h2, h3⟩ := hc
      injection hv with hv
      simp only [Prod.mk.injEq] at hv
      obtain ⟨rfl, rfl⟩ := hv
      obtain rfl := hx.sc_inv
      refine ⟨_, G, slice_run_raw ht hs hl (hh 0) (hm 0) hn (by omega) (by omega) (by omega), Ext.refl G, R, ?_⟩
      simp only [h2, h3]
      simp [RepV, Value.oneCell']
    · simp at hv
  · simp at hv

end
end Go.Am
end
