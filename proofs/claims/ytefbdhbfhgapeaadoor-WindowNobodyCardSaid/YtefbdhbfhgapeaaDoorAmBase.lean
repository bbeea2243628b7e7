/- Am: an abstract machine over the model's own code. Values are trees: a slice that nobody writes is a list. This text: values, memory, what one operation does. -/
import GoSem.Dispatch
namespace Go.Am

/-- What is known of a slice's capacity: nothing; that it is its length; that its elements are a literal's, in memory of the run's own. -/
inductive Cp where
  | any | full | lit
  deriving Inhabited, DecidableEq

def Cp.isFull : Cp → Bool
  | .any => false
  | _ => true

/-- Abstract values. 'slc ex sz rows': memory that is never written again, a list of elements, each a list of 'sz' cells ('ex': what is known of its capacity).
'hsl b e off len': elements of the row b, at its epoch e. 'ptr': a cell of a box; 'rptr': a cell of an element of a row; 'eptr': a cell of memory that is never written. -/
inductive V where
  | undef
  | sc (v : Value)
  | agg (cs : List V)
  | tup (vs : List V)
  | slc (ex : Cp) (sz : Nat) (rows : List (List V))
  | hsl (b e off len : Nat)
  | ptr (b off : Nat)
  | rptr (b e i off : Nat)
  | eptr (cs : List V) (off : Nat)
  | fn (f : Fn) (first captured : List V)
  | ifc (t : TypeId) (v : V)
  | mp (b : Nat)
  deriving Inhabited

/-- What a block of abstract memory holds. -/
inductive Obj where
  | dead
  | box (t : TypeId) (cs : List V)
  | row (t : TypeId) (sz e : Nat) (rows : List (List V))
  deriving Inhabited

abbrev Heap := List Obj
abbrev Env := Nat → V

def Env.upd (en : Env) (t : Nat) (v : V) : Env := fun x => if x = t then v else en x
def Env.put (en : Env) : Option Nat → V → Env
  | some t, v => en.upd t v
  | none, _ => en

def V.cells : V → List V
  | .agg cs => cs
  | v => [v]

abbrev V.int (n : Int) : V := .sc (.int .i64 n)
abbrev V.bool (b : Bool) : V := .sc (.bool b)
abbrev V.str (s : ByteArray) : V := .sc (.string s)
abbrev V.nilS : V := .sc (.slice none 0 0)

/-- Operands. -/
inductive Opd where
  | tmp (t : Nat)
  | val (v : V)
  deriving Inhabited

def Opd.get (en : Env) : Opd → V
  | .tmp t => en t
  | .val v => v

/-- The most elements that a slice may come to, and bytes that a string may. -/
def lim : Nat := 2 ^ 36

/-- Kinds of what may be nil. -/
inductive NK where
  | ptr | func | iface | map | slice
  deriving Inhabited, DecidableEq

/-- Kinds of cells that are compared. -/
inductive LK where
  | b | i | s
  deriving Inhabited, DecidableEq

/-- Operations, with all that the types say resolved. -/
inductive AOp where
  | mv (x : Opd)
  | pick (c a b : Opd)
  | alloc (t : TypeId) (zs : List V)
  | box (t : TypeId) (x : Opd)
  | build (zs : List V) (parts : List (Nat × Nat × Opd))
  | bslice (w : Bool) (t : TypeId) (sz : Nat) (zs : List V) (len : Nat) (parts : List (Nat × Opd))
  | load (n : Option Nat) (a : Opd)
  | store (n : Nat) (a x : Opd)
  | nilCheck (x : Opd)
  | bin (op : BinOp) (x y : Opd)
  | eqBool (neg : Bool) (x y : Opd)
  | isNil (neg : Bool) (k : NK) (x : Opd)
  | eqAgg (neg : Bool) (leaves : List (Nat × LK)) (x y : Opd)
  | un (op : UnOp) (x : Opd)
  | conv (k : IntKind) (x : Opd)
  | strOf (x : Opd)
  | bytesOf (x : Opd)
  | makeIface (t : TypeId) (x : Opd)
  | makeFunc (f : Fn) (first captured : List Opd)
  | makeSlice (t : TypeId) (sz : Nat) (zs : List V) (len cap : Opd)
  | sliceStr (x : Opd) (lo hi : Option Opd)
  | slice (sz : Nat) (x : Opd) (lo hi mx : Option Opd)
  | sliceArr (n sz : Nat) (x : Opd) (lo hi : Option Opd)
  | fieldAddr (off : Nat) (x : Opd)
  | field (n : Option Nat) (off : Nat) (x : Opd)
  | indexS (sz : Nat) (x i : Opd)
  | indexA (n sz : Nat) (x i : Opd)
  | idxArr (m : Option Nat) (n sz : Nat) (x i : Opd)
  | idxStr (x i : Opd)
  | extract (x : Opd) (i : Nat)
  | lenStr (x : Opd)
  | len (x : Opd)
  | lenC (n : Nat)
  | mnmx (mx : Bool) (xs : List Opd)
  | append (t : TypeId) (sz : Nat) (s x : Opd)
  | call (f : Opd) (args : List Opd)
  | markB (x : Opd)
  | idStr (x : Opd)
  | uncast (x : Opd)
  | cast (u : TypeId) (s : Nat) (x : Opd)
  | eqPtr (neg : Bool) (x y : Opd)
  | sliceData (x : Opd)
  | strData (u : TypeId) (x n : Opd)
  | cap (x : Opd)
  | loadF (n : Option Nat) (a : Opd)
  | indexF (sz : Nat) (x i : Opd)
  | allocA (t : TypeId) (sz : Nat) (zs : List V)
  | boxA (t : TypeId) (sz : Nat) (x : Opd)
  | sliceArrF (n sz : Nat) (x : Opd) (lo hi : Option Opd)
  | copy (sz : Nat) (d x : Opd)
  | boxF (t : TypeId) (x : Opd)
  | fail
  deriving Inhabited

structure AOper where
  dst : Option Nat
  op : AOp
  guard : Option (Nat × Bool)
  off : List Nat
  deriving Inhabited

inductive ACode where
  | skip
  | ret
  | seq (a b : ACode)
  | cond (c : Opd) (a b : ACode)
  | region (ops : List AOper)
  | block (id : Nat) (c : ACode)
  | loop (c : ACode)
  | exit (id : Nat)
  | fail
  deriving Inhabited

inductive ARes where
  | tmp (t : Nat)
  | cell (t : Nat) (n : Option Nat)
  deriving Inhabited

structure AFunc where
  nparams : Nat
  ntmps : Nat
  pure : Bool
  frz : Bool := false
  bz : List Nat := []
  br : List Nat := []
  results : List ARes
  body : ACode
  deriving Inhabited

/-! ### What one operation does -/

def wrapV (k : IntKind) (n : Int) : Option V := some (.sc (.int k (k.wrap n)))

def binInt (op : BinOp) (k : IntKind) (a b : Int) : Option V :=
  match op with
  | .add => some (.sc (.int k (k.wrap (a + b))))
  | .sub => some (.sc (.int k (k.wrap (a - b))))
  | .mul => some (.sc (.int k (k.wrap (a * b))))
  | .quo => if b = 0 then none else some (.sc (.int k (k.wrap (a.tdiv b))))
  | .rem => if b = 0 then none else some (.sc (.int k (a.tmod b)))
  | .and => some (.sc (.int k (k.wrap (BitVec.ofInt k.bits a &&& BitVec.ofInt k.bits b).toNat)))
  | .or => some (.sc (.int k (k.wrap (BitVec.ofInt k.bits a ||| BitVec.ofInt k.bits b).toNat)))
  | .xor => some (.sc (.int k (k.wrap (BitVec.ofInt k.bits a ^^^ BitVec.ofInt k.bits b).toNat)))
  | .andNot => some (.sc (.int k (k.wrap (BitVec.ofInt k.bits a &&& ~~~ BitVec.ofInt k.bits b).toNat)))
  | .eql => some (.bool (a == b))
  | .neq => some (.bool (a != b))
  | .lss => some (.bool (decide (a < b)))
  | .leq => some (.bool (decide (a ≤ b)))
  | .gtr => some (.bool (decide (a > b)))
  | .geq => some (.bool (decide (a ≥ b)))
  | _ => none

def binStr (op : BinOp) (a b : ByteArray) : Option V :=
  match op with
  | .add => if a.size + b.size ≤ lim then some (.str (a ++ b)) else none
  | .eql => some (.bool (a.toList == b.toList))
  | .neq => some (.bool (!(a.toList == b.toList)))
  | .lss => some (.bool (Op.bytesLess a.toList b.toList))
  | .leq => some (.bool (Op.bytesLess a.toList b.toList || a.toList == b.toList))
  | .gtr => some (.bool (!(Op.bytesLess a.toList b.toList || a.toList == b.toList)))
  | .geq => some (.bool (!(Op.bytesLess a.toList b.toList)))
  | _ => none

/-- Is a value of a kind nil, as far as can be told? -/
def isNil : NK → V → Option Bool
  | .ptr, .sc (.pointer none) | .func, .sc .nilFunc | .iface, .sc .nilIface | .map, .sc (.map none) | .slice, .sc (.slice none 0 0) => some true
  | .ptr, .ptr .. | .ptr, .rptr .. | .ptr, .eptr .. | .func, .fn .. | .iface, .ifc .. | .map, .mp .. | .slice, .hsl .. => some false
  | .slice, .slc _ _ (_ :: _) => some false
  | _, _ => none

def bin (op : BinOp) : V → V → Option V
  | .sc (.int k a), .sc (.int j b) =>
    match op with
    | .shl => if b < 0 then none else some (.sc (.int k (k.wrap (a * 2 ^ (min b.toNat k.bits)))))
    | .shr => if b < 0 then none else some (.sc (.int k (a.fdiv (2 ^ (min b.toNat k.bits)))))
    | _ => if k = j then binInt op k a b else none
  | .sc (.string a), .sc (.string b) => binStr op a b
  | _, _ => none

/-- '==' of two cells that are numbers, bools or strings. -/
def eqCell : LK → V → V → Option Bool
  | .i, .sc (.int k a), .sc (.int j b) => if k = j then some (a == b) else none
  | .b, .sc (.bool a), .sc (.bool b) => some (a == b)
  | .s, .sc (.string a), .sc (.string b) => some (a == b)
  | _, _, _ => none

def eqLeaves (xs ys : List V) : List (Nat × LK) → Option Bool
  | [] => some true
  | o :: os => match xs[o.1]?, ys[o.1]? with
    | some x, some y => (eqCell o.2 x y).bind fun t => (eqLeaves xs ys os).map fun u => t && u
    | _, _ => none

def unary (op : UnOp) : V → Option V
  | .sc (.int k n) => match op with
    | .neg => some (.sc (.int k (k.wrap (0 - n))))
    | .xor => some (.sc (.int k (k.wrap (BitVec.ofInt k.bits (if k.signed then -1 else k.max) ^^^ BitVec.ofInt k.bits n).toNat)))
    | _ => none
  | .sc (.bool b) => match op with
    | .not => some (.bool (!b))
    | _ => none
  | _ => none

/-- The bytes that one-cell elements are. -/
def bytesIn : List (List V) → Option (List UInt8)
  | [] => some []
  | [.sc (.int .u8 n)] :: r => (bytesIn r).map (UInt8.ofNat n.toNat :: ·)
  | _ => none

def bytesOut (s : ByteArray) : List (List V) := s.data.toList.map fun c => [.sc (.int .u8 c.toNat)]

/-- The row of a slice over a row, where it is still the row's last. -/
def rowAt (h : Heap) (b e : Nat) : Option (Nat × List (List V)) :=
  match h[b]? with
  | some (.row _ sz e' rs) => if e' = e then some (sz, rs) else none
  | _ => none

/-- The elements of a slice, as they stand ('sz': how many cells one has). -/
def elems (sz : Nat) (h : Heap) : V → Option (List (List V))
  | .slc _ z rs => if rs.isEmpty || z == sz then some rs else none
  | .hsl b e off len => match rowAt h b e with
    | some (z, rs) => if z = sz ∧ off + len ≤ rs.length then some ((rs.drop off).take len) else none
    | none => none
  | .sc (.slice none 0 0) => some []
  | _ => none

def slcLen : V → Option Nat
  | .slc _ _ rs => some rs.length
  | .hsl _ _ _ len => some len
  | .sc (.slice none 0 0) => some 0
  | _ => none

/-- A row of a value: its elements of one cell are scalars. -/
def cutCells (n : Option Nat) (cs : List V) (off : Nat) : Option V :=
  match n with
  | none => cs[off]?
  | some k => if off + k ≤ cs.length then some (.agg ((cs.drop off).take k)) else none

/-- cells from 'off' on, replaced. -/
def putCells (cs : List V) (off : Nat) (new : List V) : List V := cs.take off ++ new ++ cs.drop (off + new.length)

/-- Cells, in pieces of one size. -/
def chunk (sz : Nat) (l : List V) : List (List V) := (List.range (l.length / sz)).map fun i => (l.drop (i * sz)).take sz

/-- Values without a way into blocks that may be written. -/
def ground : V → Bool
  | .sc _ | .slc .. | .eptr .. => true
  | _ => false

mutual
/-- Do all ways into blocks lead to blocks of a number below n? -/
def refsLt (n : Nat) : V → Bool
  | .ptr b _ | .hsl b _ _ _ | .rptr b _ _ _ | .mp b => decide (b < n)
  | .fn _ a c => refsLts n a && refsLts n c
  | .agg cs => refsLts n cs
  | .tup vs => refsLts n vs
  | .ifc _ v => refsLt n v
  | .undef | .sc _ | .slc .. | .eptr .. => true
def refsLts (n : Nat) : List V → Bool
  | [] => true
  | v :: r => refsLt n v && refsLts n r
end

/-- May such a value be stored into the block b, where the running function's own blocks begin at 'base'? -/
def mayStore (base b : Nat) (cs : List V) : Bool := decide (base ≤ b) || refsLts (b + 1) cs

def oneCell : V → Bool
  | .agg _ | .tup _ | .undef => false
  | _ => true

def fillParts (zs : List V) : List (Nat × Nat × V) → Option (List V)
  | [] => some zs
  | (off, sz, v) :: r =>
    if v.cells.length = sz ∧ v.cells.all oneCell ∧ off + sz ≤ zs.length then fillParts (putCells zs off v.cells) r else none

def fillRows (sz : Nat) (rows : List (List V)) : List (Nat × V) → Option (List (List V))
  | [] => some rows
  | (i, v) :: r => if v.cells.length = sz ∧ v.cells.all oneCell ∧ i < rows.length then fillRows sz (rows.set i v.cells) r else none

def getsO (en : Env) : List Opd → List V
  | [] => []
  | x :: r => x.get en :: getsO en r

def getParts (en : Env) : List (Nat × Nat × Opd) → List (Nat × Nat × V)
  | [] => []
  | (a, b, x) :: r => (a, b, x.get en) :: getParts en r

def getParts2 (en : Env) : List (Nat × Opd) → List (Nat × V)
  | [] => []
  | (a, x) :: r => (a, x.get en) :: getParts2 en r

def asNat? : V → Option Nat
  | .sc (.int _ n) => if 0 ≤ n then some n.toNat else none
  | _ => none

/-- A bound of a slice expression: what stands there, else a default. -/
def boundO (en : Env) (d : Nat) : Option Opd → Option Nat
  | none => some d
  | some x => asNat? (x.get en)

/-- Is the capacity of a piece its length? -/
def exTo (ex : Cp) (e n : Nat) : Option Nat → Cp
  | some m => if m == e then .full else .any
  | none => if ex.isFull && e == n then .full else .any

def sliceV (h : Heap) (sz : Nat) (x : V) (lo : Nat) (hi mx : Option Nat) : Option (V × Heap) :=
  match x with
  | .slc ex z rs =>
    if (rs.isEmpty || z == sz) = true ∧ lo ≤ hi.getD rs.length ∧ hi.getD rs.length ≤ rs.length ∧ mx.getD (hi.getD rs.length) ≤ rs.length ∧ hi.getD rs.length ≤ mx.getD (hi.getD rs.length) then
      some (.slc (exTo ex (hi.getD rs.length) rs.length mx) z ((rs.drop lo).take (hi.getD rs.length - lo)), h) else none
  | .hsl b ep off len =>
    if lo ≤ hi.getD len ∧ hi.getD len ≤ len then
      match h[b]? with
      | some (.row t z e' rs) =>
        if z = sz ∧ e' = ep then
          match mx with
          | none => some (.hsl b ep (off + lo) (hi.getD len - lo), h)
          | some m =>
            if m = hi.getD len ∧ lo = 0 ∧ off = 0 ∧ rs.length = len then some (.hsl b (ep + 1) 0 (hi.getD len), h.set b (.row t sz (ep + 1) (rs.take (hi.getD len)))) else none
        else none
      | _ => none
    else none
  | .sc (.slice none n c) => if n = 0 ∧ c = 0 ∧ lo = 0 ∧ hi.getD 0 = 0 ∧ mx.getD 0 = 0 then some (x, h) else none
  | _ => none

def minmax (mx : Bool) : V → List V → Option V
  | x, [] => some x
  | .sc (.int k a), .sc (.int j b) :: r =>
    if k = j then minmax mx (.sc (.int k (if mx then (if a < b then b else a) else (if b < a then b else a)))) r else none
  | _, _ => none

/-- Elements that are written: each of so many cells, each cell one. -/
def newOk (sz : Nat) (new : List (List V)) : Bool := new.all fun r => r.length == sz && r.all oneCell

def appendV (base : Nat) (h : Heap) (t : TypeId) (sz : Nat) (s : V) (new : List (List V)) : Option (V × Heap) :=
  match new with
  | [] => (elems sz h s).map fun _ => (s, h)
  | _ :: _ =>
    match s with
    | .sc (.slice none 0 0) => if new.length ≤ lim ∧ newOk sz new then some (.hsl h.length 0 0 new.length, h ++ [.row t sz 0 new]) else none
    | .slc ex z rs => if ex.isFull && (rs.isEmpty || z == sz) && decide (rs.length + new.length ≤ lim) && newOk sz new then some (.hsl h.length 0 0 (rs.length + new.length), h ++ [.row t sz 0 (rs ++ new)]) else none
    | .hsl b e 0 len =>
      match h[b]? with
      | some (.row u z e' rs) => if u = t ∧ z = sz ∧ e' = e ∧ len ≤ rs.length ∧ len + new.length ≤ lim ∧ newOk sz new ∧ new.all (mayStore base b) then some (.hsl b (e + 1) 0 (len + new.length), h.set b (.row t sz (e + 1) (rs.take len ++ new))) else none
      | _ => none
    | _ => none

/-- What is appended or copied: a slice's elements, or a string's bytes. -/
def srcRows (sz : Nat) (h : Heap) : V → Option (List (List V))
  | .sc (.string s) => if sz = 1 then some (bytesOut s) else none
  | x => elems sz h x

def loadV (h : Heap) (n : Option Nat) : V → Option V
  | .ptr b off => match h[b]? with
    | some (.box _ cs) => cutCells n cs off
    | _ => none
  | .rptr b e i off => match rowAt h b e with
    | some (_, rs) => (rs[i]?).bind fun cs => if off + n.getD 1 ≤ cs.length then cutCells n cs off else if i = 0 then cutCells n rs.flatten off else none
    | none => none
  | .eptr cs off => cutCells n cs off
  | _ => none

def storeV (base : Nat) (h : Heap) (n : Nat) (a x : V) : Option Heap :=
  if x.cells.length = n ∧ x.cells.all oneCell then
    match a with
    | .ptr b off => match h[b]? with
      | some (.box t cs) => if off + n ≤ cs.length ∧ mayStore base b x.cells then some (h.set b (.box t (putCells cs off x.cells))) else none
      | _ => none
    | .rptr b e i off => match h[b]? with
      | some (.row t sz e' rs) =>
        if e' = e then
          match rs[i]? with
          | some cs =>
            if off + n ≤ cs.length ∧ mayStore base b x.cells then some (h.set b (.row t sz e' (rs.set i (putCells cs off x.cells))))
            else if i = 0 ∧ off + n ≤ rs.flatten.length ∧ mayStore base b x.cells then some (h.set b (.row t sz e' (chunk sz (putCells rs.flatten off x.cells)))) else none
          | none => none
        else none
      | _ => none
    | _ => none
  else none

/-- A pointer, so many cells further. -/
def moveV (n : Nat) : V → Option V
  | .ptr b o => some (.ptr b (o + n))
  | .rptr b e i o => some (.rptr b e i (o + n))
  | .eptr cs o => some (.eptr cs (o + n))
  | _ => none

/-- The address of a slice's element. -/
def indexV (h : Heap) (s k : Nat) : V → Option V
  | .slc _ z rs => if z = s then (rs[k]?).map fun cs => V.eptr cs 0 else none
  | .hsl b e off len => match rowAt h b e with
    | some (z, rs) => if z = s ∧ k < len ∧ off + len ≤ rs.length then some (.rptr b e (off + k) 0) else none
    | none => none
  | _ => none

/-- The cells of a box. -/
def boxAt (h : Heap) (b : Nat) : Option (TypeId × List V) :=
  match h[b]? with
  | some (.box t cs) => some (t, cs)
  | _ => none

/-- A pointer into a box, seen as an unsafe one. -/
def uncastV (h : Heap) : V → Option V
  | .sc (.pointer none) => some (.sc (.pointer none))
  | .ptr b off => (boxAt h b).bind fun p => if off < p.2.length then some (.ptr b off) else none
  | _ => none

/-- .. and back: a pointer to a whole box of that type. -/
def castV (h : Heap) (u : TypeId) (s : Nat) : V → Option V
  | .sc (.pointer none) => some (.sc (.pointer none))
  | .ptr b 0 => (boxAt h b).bind fun p => if p.1 = u ∧ p.2.length = s then some (.ptr b 0) else none
  | _ => none

/-- Are two pointers one? -/
def samePtr (h : Heap) : V → V → Option Bool
  | .sc (.pointer none), .sc (.pointer none) => some true
  | .sc (.pointer none), .ptr .. | .ptr .., .sc (.pointer none) => some false
  | .ptr b o, .ptr c p => (boxAt h b).bind fun _ => (boxAt h c).map fun _ => b == c && o == p
  | _, _ => none

/-- The block that a value leads into. -/
def blockOf : V → Option Nat
  | .ptr b _ | .rptr b _ _ _ | .hsl b _ _ _ => some b
  | _ => none

def sliceDataV (h : Heap) : V → Option V
  | .sc (.slice none 0 0) => some (.sc (.pointer none))
  | .hsl b e off len => match rowAt h b e with
    | some _ => if 0 < len then some (.rptr b e off 0) else none
    | none => none
  | _ => none

/-- The string over the first bytes of a row, which is not touched any more. -/
def strDataV (h : Heap) (u : TypeId) (k : Nat) : V → Option (V × Heap)
  | .sc (.pointer none) => if k = 0 then some (.str .empty, h) else none
  | .rptr b e 0 0 => match h[b]? with
    | some (.row t sz e' rs) => if t = u ∧ sz = 1 ∧ e' = e ∧ 0 < k ∧ k ≤ rs.length ∧ k ≤ lim then (bytesIn (rs.take k)).map fun l => (.str ⟨l.toArray⟩, h.set b .dead) else none
    | _ => none
  | _ => none

/-- 'copy': how many elements go over, and memory behind it. -/
def copyV (base : Nat) (h : Heap) (sz : Nat) (d : V) (new : List (List V)) : Option (Nat × Heap) :=
  match slcLen d with
  | none => none
  | some m =>
    if min new.length m = 0 then some (0, h) else
    match d with
    | .hsl b e off len => match h[b]? with
      | some (.row t z e' rs) =>
        if z = sz ∧ e' = e ∧ off + len ≤ rs.length ∧ newOk sz (new.take (min new.length len)) ∧ (new.take (min new.length len)).all (mayStore base b) then
          some (min new.length len, h.set b (.row t z e' (rs.take off ++ new.take (min new.length len) ++ rs.drop (off + (new.take (min new.length len)).length)))) else none
      | _ => none
    | _ => none

def capV : V → Option Nat
  | .sc (.slice none 0 0) => some 0
  | .slc ex _ rs => if ex.isFull then some rs.length else none
  | _ => none

/-- One operation that is no call: its value, and memory behind it. -/
def step (base : Nat) (en : Env) (h : Heap) : AOp → Option (V × Heap)
  | .mv x => some (x.get en, h)
  | .pick c a b => match c.get en with
    | .sc (.bool t) => some (if t then a.get en else b.get en, h)
    | _ => none
  | .alloc t zs => some (.ptr h.length 0, h ++ [.box t zs])
  | .box t x => if (x.get en).cells.all oneCell then some (.ptr h.length 0, h ++ [.box t (x.get en).cells]) else none
  | .build zs ps => (fillParts zs (getParts en ps)).map fun cs => (.agg cs, h)
  | .bslice w t sz zs n ps => (fillRows sz (List.replicate n zs) (getParts2 en ps)).bind fun rs =>
      if w then (if rs.all (fun r => r.all oneCell) then some (.hsl h.length 0 0 rs.length, h ++ [.row t sz 0 rs]) else none)
      else if rs.all (fun r => r.all ground) then some (.slc .lit sz rs, h)
      else if rs.all (fun r => r.all oneCell) then some (.hsl h.length 0 0 rs.length, h ++ [.row t sz 0 rs]) else none
  | .load n a => (loadV h n (a.get en)).map fun v => (v, h)
  | .store n a x => (storeV base h n (a.get en) (x.get en)).map fun h' => (.undef, h')
  | .nilCheck x => match x.get en with
    | .ptr b o => some (.ptr b o, h)
    | .rptr b e i o => some (.rptr b e i o, h)
    | .eptr cs o => some (.eptr cs o, h)
    | .fn (.func f) a c => some (.fn (.func f) a c, h)
    | _ => none
  | .bin op x y => (bin op (x.get en) (y.get en)).map fun v => (v, h)
  | .eqBool neg x y => match x.get en, y.get en with
    | .sc (.bool a), .sc (.bool b) => some (.bool (if neg then !(a == b) else (a == b)), h)
    | _, _ => none
  | .isNil neg k x => (isNil k (x.get en)).map fun b => (.bool (if neg then !b else b), h)
  | .eqAgg neg ls x y => match x.get en, y.get en with
    | .agg xs, .agg ys => (eqLeaves xs ys ls).map fun t => (.bool (if neg then !t else t), h)
    | _, _ => none
  | .un op x => (unary op (x.get en)).map fun v => (v, h)
  | .conv k x => match x.get en with
    | .sc (.int _ n) => some (.sc (.int k (k.wrap n)), h)
    | _ => none
  | .strOf x => (elems 1 h (x.get en)).bind fun rs => (bytesIn rs).map fun l => (.str ⟨l.toArray⟩, h)
  | .bytesOf x => match x.get en with
    | .sc (.string s) => if s.size ≤ lim then some (.slc .any 1 (bytesOut s), h) else none
    | _ => none
  | .makeIface t x => if oneCell (x.get en) then some (.ifc t (x.get en), h) else none
  | .makeFunc f a c => some (.fn f (getsO en a) (getsO en c), h)
  | .makeSlice t sz zs l c => match asNat? (l.get en), asNat? (c.get en) with
    | some n, some m => if n ≤ m ∧ m ≤ lim then some (.hsl h.length 0 0 n, h ++ [.row t sz 0 (List.replicate n zs)]) else none
    | _, _ => none
  | .sliceStr x lo hi => match x.get en with
    | .sc (.string s) => (boundO en 0 lo).bind fun l => (boundO en s.size hi).bind fun e =>
        if l ≤ e ∧ e ≤ s.size then some (.str (s.extract l e), h) else none
    | _ => none
  | .slice sz x lo hi mx => (boundO en 0 lo).bind fun l => match hi, mx with
      | none, none => sliceV h sz (x.get en) l none none
      | some e, none => (asNat? (e.get en)).bind fun e => sliceV h sz (x.get en) l (some e) none
      | some e, some m => (asNat? (e.get en)).bind fun e => (asNat? (m.get en)).bind fun m => sliceV h sz (x.get en) l (some e) (some m)
      | none, some _ => none
  | .sliceArr n sz x lo hi => match x.get en, boundO en 0 lo, boundO en n hi with
    | .eptr cs 0, some l, some e =>
      if l = 0 ∧ e = n ∧ n * sz = cs.length ∧ 0 < sz ∧ 0 < n then some (.slc .full sz ((List.range n).map fun i => (cs.drop (i * sz)).take sz), h) else none
    | .rptr b ep 0 0, some l, some e => match rowAt h b ep with
      | some (z, rs) => if z = sz ∧ rs.length = n ∧ l ≤ e ∧ e ≤ n then some (.hsl b ep l (e - l), h) else none
      | none => none
    | _, _, _ => none
  | .fieldAddr off x => (moveV off (x.get en)).map fun v => (v, h)
  | .field n off x => match x.get en with
    | .agg cs => (cutCells n cs off).map fun v => (v, h)
    | _ => none
  | .indexS sz x i => (asNat? (i.get en)).bind fun k => (indexV h sz k (x.get en)).map fun v => (v, h)
  | .indexA n sz x i => (asNat? (i.get en)).bind fun k => if k < n then (moveV (k * sz) (x.get en)).map fun v => (v, h) else none
  | .idxArr m n sz x i => (asNat? (i.get en)).bind fun k => if k < n then match x.get en with
      | .agg cs => (cutCells m cs (k * sz)).map fun v => (v, h)
      | _ => none
    else none
  | .idxStr x i => (asNat? (i.get en)).bind fun k => match x.get en with
    | .sc (.string s) => (s[k]?).map fun c => (.sc (.int .u8 c.toNat), h)
    | _ => none
  | .extract x i => match x.get en with
    | .tup vs => (vs[i]?).map fun v => (v, h)
    | _ => none
  | .lenStr x => match x.get en with
    | .sc (.string s) => some (.int s.size, h)
    | _ => none
  | .len x => (slcLen (x.get en)).map fun (n : Nat) => (.int (n : Int), h)
  | .lenC n => some (.int n, h)
  | .mnmx mx xs => match getsO en xs with
    | x :: r => (minmax mx x r).map fun v => (v, h)
    | [] => none
  | .append t sz s x => (srcRows sz h (x.get en)).bind fun new => appendV base h t sz (s.get en) new
  | .markB x => match x.get en with
    | .slc .lit 1 (r :: rs) => some (.slc .lit 1 (r :: rs), h)
    | _ => none
  | .idStr x => match x.get en with
    | .sc (.string s) => some (.str s, h)
    | _ => none
  | .uncast x => (uncastV h (x.get en)).map fun v => (v, h)
  | .cast u s x => (castV h u s (x.get en)).map fun v => (v, h)
  | .eqPtr neg x y => (samePtr h (x.get en) (y.get en)).map fun b => (.bool (if neg then !b else b), h)
  | .sliceData x => (sliceDataV h (x.get en)).map fun v => (v, h)
  | .strData u x n => match n.get en with
    | .sc (.int .i64 k) => if 0 ≤ k then strDataV h u k.toNat (x.get en) else none
    | _ => none
  | .cap x => (capV (x.get en)).map fun (n : Nat) => (.int (n : Int), h)
  | .loadF n a => match a.get en with
    | .eptr cs off => (cutCells n cs off).map fun v => (v, h)
    | _ => none
  | .indexF sz x i => (asNat? (i.get en)).bind fun k => match x.get en with
    | .slc _ z rs => if z = sz then (rs[k]?).map fun cs => (.eptr cs 0, h) else none
    | _ => none
  | .allocA t sz zs => if 0 < sz ∧ zs.length % sz = 0 ∧ 0 < zs.length then some (.rptr h.length 0 0 0, h ++ [.row t sz 0 (chunk sz zs)]) else none
  | .boxA t sz x => if 0 < sz ∧ (x.get en).cells.length % sz = 0 ∧ 0 < (x.get en).cells.length ∧ (x.get en).cells.all oneCell then some (.rptr h.length 0 0 0, h ++ [.row t sz 0 (chunk sz (x.get en).cells)]) else none
  | .sliceArrF n sz x lo hi => match x.get en, boundO en 0 lo, boundO en n hi with
    | .eptr cs 0, some l, some e =>
      if l = 0 ∧ e = n ∧ n * sz = cs.length ∧ 0 < sz ∧ 0 < n then some (.slc .full sz ((List.range n).map fun i => (cs.drop (i * sz)).take sz), h) else none
    | _, _, _ => none
  | .copy sz d x => (srcRows sz h (x.get en)).bind fun new => (copyV base h sz (d.get en) new).map fun p => (.int (p.1 : Int), p.2)
  | .boxF _ x => if (x.get en).cells.all ground then some (.eptr (x.get en).cells 0, h) else none
  | .call _ _ => none
  | .fail => none

/-! ### Running -/

inductive Ex where
  | normal
  | exit (id : Nat)
  | ret
  deriving Inhabited, DecidableEq

/-- What is called, and with what. -/
def target (v : V) (args : List V) : Option (FuncId × List V) :=
  match v with
  | .fn (.func f) a c => some (f, a ++ args ++ c)
  | _ => none

abbrev CallF := Nat → FuncId → List V → Heap → Option (V × Heap)

def oO : Option Opd → List Opd
  | none => []
  | some x => [x]

def AOp.opds : AOp → List Opd
  | .mv x | .box _ x | .load _ x | .nilCheck x | .isNil _ _ x | .un _ x | .conv _ x | .strOf x | .bytesOf x | .makeIface _ x | .fieldAddr _ x | .field _ _ x | .extract x _ | .lenStr x | .len x | .markB x | .idStr x | .loadF _ x | .uncast x | .cast _ _ x | .sliceData x | .cap x | .boxA _ _ x | .boxF _ x => [x]
  | .pick c a b => [c, a, b]
  | .alloc _ _ | .allocA .. | .lenC _ | .fail => []
  | .build _ ps => ps.map (·.2.2)
  | .bslice _ _ _ _ _ ps => ps.map (·.2)
  | .store _ a x | .eqPtr _ a x | .strData _ a x | .bin _ a x | .eqBool _ a x | .eqAgg _ _ a x | .makeSlice _ _ _ a x | .indexS _ a x | .indexF _ a x | .indexA _ _ a x | .idxArr _ _ _ a x | .idxStr a x | .append _ _ a x | .copy _ a x => [a, x]
  | .makeFunc _ a c => a ++ c
  | .sliceStr x lo hi | .sliceArr _ _ x lo hi | .sliceArrF _ _ x lo hi => x :: (oO lo ++ oO hi)
  | .slice _ x lo hi mx => x :: (oO lo ++ oO hi ++ oO mx)
  | .mnmx _ xs => xs
  | .call f xs => f :: xs

/-- Does an operation keep off the blocks that it is to keep off? -/
def offOk (en : Env) (o : AOper) : Bool :=
  o.off.all fun t => match blockOf (en t) with
    | some b => o.op.opds.all fun x => blockOf (x.get en) != some b
    | none => false

def evOp (call : CallF) (base : Nat) (en : Env) (h : Heap) (op : AOp) : Option (V × Heap) :=
  match op with
  | .call f args => match target (f.get en) (getsO en args) with
    | some (k, vs) => call base k vs h
    | none => none
  | op => step base en h op

def evOper (call : CallF) (base : Nat) (en : Env) (h : Heap) (o : AOper) : Option (V × Heap) := if offOk en o then evOp call base en h o.op else none

/-- Does a guard want its operation? A slot whose own operation was not wanted holds the empty tuple: what it guards is not wanted either. -/
def gOk (v : V) (want : Bool) : Option Bool :=
  match v with
  | .sc (.bool t) => some (t == want)
  | .tup [] => some false
  | _ => none

def evOps (call : CallF) (base : Nat) : List AOper → Env → Heap → Option (Env × Heap)
  | [], en, h => some (en, h)
  | o :: r, en, h =>
    match o.guard with
    | none => match evOper call base en h o with
      | some (v, h') => evOps call base r (en.put o.dst v) h'
      | none => none
    | some (g, want) => match gOk (en g) want with
      | some true => match evOper call base en h o with
          | some (v, h') => evOps call base r (en.put o.dst v) h'
          | none => none
      | some false => evOps call base r (en.put o.dst (.tup [])) h
      | none => none

def iter (f : Env → Heap → Option (Ex × Env × Heap)) : Nat → Env → Heap → Option (Ex × Env × Heap)
  | 0, _, _ => none
  | n + 1, en, h => match f en h with
    | some (.normal, en', h') => iter f n en' h'
    | r => r

def evC (call : CallF) (base n : Nat) : ACode → Env → Heap → Option (Ex × Env × Heap)
  | .skip, en, h => some (.normal, en, h)
  | .ret, en, h => some (.ret, en, h)
  | .exit id, en, h => some (.exit id, en, h)
  | .seq a b, en, h => match evC call base n a en h with
    | some (.normal, en', h') => evC call base n b en' h'
    | r => r
  | .fail, _, _ => none
  | .cond c a b, en, h => match c.get en with
    | .sc (.bool t) => if t then evC call base n a en h else evC call base n b en h
    | _ => none
  | .region ops, en, h => match evOps call base ops en h with
    | some (en', h') => some (.normal, en', h')
    | none => none
  | .block id c, en, h => match evC call base n c en h with
    | some (.exit i, en', h') => if i = id then some (.normal, en', h') else some (.exit i, en', h')
    | r => r
  | .loop c, en, h => iter (fun en h => evC call base n c en h) n en h

def evRes1 (en : Env) (h : Heap) : ARes → Option V
  | .tmp t => some (en t)
  | .cell t n => loadV h n (en t)

def evRess (en : Env) (h : Heap) : List ARes → Option (List V)
  | [] => some []
  | r :: rs => (evRes1 en h r).bind fun v => (evRess en h rs).map (v :: ·)

def oneOrTup : List V → V
  | [v] => v
  | vs => .tup vs

mutual
/-- What a call hands back, where its own rows are never written again, and its own boxes are gone. -/
def freezeV (h : Heap) (base : Nat) : Nat → V → Option V
  | 0, _ => none
  | k + 1, .hsl b e off len =>
    if b < base then some (.hsl b e off len) else
    match rowAt h b e with
    | some (sz, rs) =>
      if off + len ≤ rs.length then
        if rs.all (fun r => r.all ground) then some (.slc .any sz ((rs.drop off).take len))
        else (freezeRows h base k rs).bind fun rs => if rs.all (fun r => r.all ground) then some (.slc .any sz ((rs.drop off).take len)) else none
      else none
    | none => none
  | k + 1, .agg cs => (freezeVs h base k cs).map .agg
  | k + 1, .tup cs => (freezeVs h base k cs).map .tup
  | _ + 1, .fn f a c => if refsLts base a && refsLts base c then some (.fn f a c) else none
  | _ + 1, .ifc t v => if refsLt base v then some (.ifc t v) else none
  | _ + 1, .ptr b o => if b < base then some (.ptr b o) else none
  | _ + 1, .rptr b e i o => if b < base then some (.rptr b e i o) else none
  | _ + 1, .mp b => if b < base then some (.mp b) else none
  | _ + 1, .sc v => some (.sc v)
  | _ + 1, .slc ex sz rs => some (.slc ex sz rs)
  | _ + 1, .eptr cs o => some (.eptr cs o)
  | _ + 1, .undef => some .undef
def freezeVs (h : Heap) (base : Nat) : Nat → List V → Option (List V)
  | 0, _ => none
  | _ + 1, [] => some []
  | k + 1, v :: r => (freezeV h base k v).bind fun v => (freezeVs h base k r).map (v :: ·)
def freezeRows (h : Heap) (base : Nat) : Nat → List (List V) → Option (List (List V))
  | 0, _ => none
  | _ + 1, [] => some []
  | k + 1, v :: r => (freezeVs h base k v).bind fun v => (freezeRows h base k r).map (v :: ·)
end

/-- A call of a function whose body is known. -/
def evFunc (call : CallF) (n base : Nat) (F : AFunc) (args : List V) (h : Heap) : Option (V × Heap) :=
  if args.length = F.nparams then
    let b := if F.pure then h.length else base
    match evC call b n F.body (fun t => args.getD t .undef) h with
    | some (.exit _, _, _) => none
    | some (_, en, h') => (evRess en h' F.results).bind fun rs =>
        if F.pure then (freezeV h' b n (oneOrTup rs)).map fun v => (v, h'.take b)
        else some (oneOrTup rs, h')
    | none => none
  else none

/-- Calls: 'X' are functions that are known by a contract, 'F' those whose bodies are known. -/
def evCall (X : FuncId → Option (Nat → List V → Heap → Option (V × Heap))) (F : FuncId → Option AFunc) : Nat → CallF
  | 0, _, _, _, _ => none
  | n + 1, base, f, args, h =>
    match X f with
    | some g => g base args h
    | none => match F f with
      | some fn => evFunc (evCall X F n) n base fn args h
      | none => none

end Go.Am
