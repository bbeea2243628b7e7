/- The abstract machine and what is proved in it, part 1. -/
import GoSem.Dispatch
import Derived.Laws.CopyRow
import Derived.Laws.AppendOwn
import Derived.Below
set_option linter.unusedVariables false
set_option linter.unusedSimpArgs false
namespace Go.Am
section
inductive Cp where
 | any | full | lit
 deriving Inhabited,DecidableEq
def Cp.isFull:Cp→Bool
 | .any=>false
 | _=>true
mutual
def x5N:Value→Value→Bool
 | .func f a c,.func g b d=>decide (f=g)&&(x7X a.toList b.toList&&x7X c.toList d.toList)
 | .iface t a,.iface u b=>decide (t=u)&&x5N a b
 | .agg a,.agg b=>x7X a.toList b.toList
 | .tuple a,.tuple b=>x7X a.toList b.toList
 | .bool a,.bool b=>decide (a=b)
 | .int k a,.int j b=>decide (k=j)&&decide (a=b)
 | .float k a,.float j b=>decide (k=j)&&decide (a=b)
 | .complex k a c,.complex j b d=>decide (k=j)&&(decide (a=b)&&decide (c=d))
 | .string a,.string b=>decide (a=b)
 | .pointer a,.pointer b=>decide (a=b)
 | .slice a n c,.slice b m d=>decide (a=b)&&(decide (n=m)&&decide (c=d))
 | .map a,.map b=>decide (a=b)
 | .chan a,.chan b=>decide (a=b)
 | .nilFunc,.nilFunc=>true
 | .nilIface,.nilIface=>true
 | _,_=>false
def x7X:List Value→List Value→Bool
 | [],[]=>true
 | a::as,b::bs=>x5N a b&&x7X as bs
 | _,_=>false
end
mutual
theorem x8V:∀ a b:Value,x5N a b=true↔a=b
 | .func f a c,b=>by
  cases b<;>simp only [x5N,Bool.false_eq_true,reduceCtorEq]
  rename_i g b d
  have h1:=x5t a.toList b.toList
  have h2:=x5t c.toList d.toList
  simp only [Bool.and_eq_true,decide_eq_true_eq,h1,h2,Array.toList_inj,Value.func.injEq]
 | .iface t a,b=>by
  cases b<;>simp only [x5N,Bool.false_eq_true,reduceCtorEq]
  rename_i u b
  have h1:=x8V a b
  simp only [Bool.and_eq_true,decide_eq_true_eq,h1,Value.iface.injEq]
 | .agg a,b=>by
  cases b<;>simp only [x5N,Bool.false_eq_true,reduceCtorEq]
  rename_i b
  have h1:=x5t a.toList b.toList
  simp only [h1,Array.toList_inj,Value.agg.injEq]
 | .tuple a,b=>by
  cases b<;>simp only [x5N,Bool.false_eq_true,reduceCtorEq]
  rename_i b
  have h1:=x5t a.toList b.toList
  simp only [h1,Array.toList_inj,Value.tuple.injEq]
 | .bool _,b=>by cases b<;>simp [x5N]
 | .int _ _,b=>by cases b<;>simp [x5N]
 | .float _ _,b=>by cases b<;>simp [x5N]
 | .complex _ _ _,b=>by cases b<;>simp [x5N]
 | .string _,b=>by cases b<;>simp [x5N]
 | .pointer _,b=>by cases b<;>simp [x5N]
 | .slice _ _ _,b=>by cases b<;>simp [x5N]
 | .map _,b=>by cases b<;>simp [x5N]
 | .chan _,b=>by cases b<;>simp [x5N]
 | .nilFunc,b=>by cases b<;>simp [x5N]
 | .nilIface,b=>by cases b<;>simp [x5N]
theorem x5t:∀ a b:List Value,x7X a b=true↔a=b
 | [],b=>by cases b<;>simp [x7X]
 | a::as,b=>by
  cases b<;>simp only [x7X,Bool.false_eq_true,reduceCtorEq]
  rename_i b bs
  have h1:=x8V a b
  have h2:=x5t as bs
  simp only [Bool.and_eq_true,h1,h2,List.cons.injEq]
end
def eqSc:Value→Value→Bool
 | .bool a,.bool b=>decide (a=b)
 | .int k a,.int j b=>decide (k=j)&&decide (a=b)
 | .string a,.string b=>decide (a=b)
 | .pointer none,.pointer none=>true
 | .slice none n c,.slice none m d=>decide (n=m)&&decide (c=d)
 | .map none,.map none=>true
 | .nilFunc,.nilFunc=>true
 | .nilIface,.nilIface=>true
 | a,b=>x5N a b
theorem xdd (a b:Value):eqSc a b=true↔a=b:=by
 unfold eqSc
 split<;>simp [x8V]
inductive V where
 | undef
 | sc (v:Value)
 | agg (cs:List V)
 | tup (vs:List V)
 | slc (ex:Cp) (sz:Nat) (rows:List (List V))
 | hsl (b e off len:Nat)
 | ptr (b off:Nat)
 | rptr (b e i off:Nat)
 | eptr (cs:List V) (off:Nat)
 | fn (f:Fn) (first captured:List V)
 | ifc (t:TypeId) (v:V)
 | mp (b:Nat)
 | opq
 deriving Inhabited
mutual
def eqV:V→V→Bool
 | .undef,.undef=>true
 | .sc a,.sc b=>eqSc a b
 | .agg a,.agg b=>eqVs a b
 | .tup a,.tup b=>eqVs a b
 | .slc c z r,.slc d y s=>decide (c=d)&&(decide (z=y)&&xer r s)
 | .hsl a b c d,.hsl e f g i=>decide (a=e)&&(decide (b=f)&&(decide (c=g)&&decide (d=i)))
 | .ptr a b,.ptr c d=>decide (a=c)&&decide (b=d)
 | .rptr a b c d,.rptr e f g i=>decide (a=e)&&(decide (b=f)&&(decide (c=g)&&decide (d=i)))
 | .eptr cs o,.eptr ds p=>eqVs cs ds&&decide (o=p)
 | .fn f a c,.fn g b d=>decide (f=g)&&(eqVs a b&&eqVs c d)
 | .ifc t a,.ifc u b=>decide (t=u)&&eqV a b
 | .mp a,.mp b=>decide (a=b)
 | .opq,.opq=>true
 | _,_=>false
def eqVs:List V→List V→Bool
 | [],[]=>true
 | a::as,b::bs=>eqV a b&&eqVs as bs
 | _,_=>false
def xer:List (List V)→List (List V)→Bool
 | [],[]=>true
 | a::as,b::bs=>eqVs a b&&xer as bs
 | _,_=>false
end
mutual
theorem x7E:∀ a b:V,eqV a b=true↔a=b
 | .undef,b=>by cases b<;>simp [eqV]
 | .sc a,b=>by cases b<;>simp [eqV,xdd]
 | .agg a,b=>by cases b<;>simp only [eqV,Bool.false_eq_true,reduceCtorEq,x56 a,V.agg.injEq]
 | .tup a,b=>by cases b<;>simp only [eqV,Bool.false_eq_true,reduceCtorEq,x56 a,V.tup.injEq]
 | .slc c z r,b=>by cases b<;>simp only [eqV,Bool.false_eq_true,reduceCtorEq,x8U r,V.slc.injEq,Bool.and_eq_true,decide_eq_true_eq]
 | .hsl a b c d,e=>by cases e<;>simp [eqV]
 | .ptr a b,e=>by cases e<;>simp [eqV]
 | .rptr a b c d,e=>by cases e<;>simp [eqV]
 | .eptr cs o,b=>by cases b<;>simp only [eqV,Bool.false_eq_true,reduceCtorEq,x56 cs,V.eptr.injEq,Bool.and_eq_true,decide_eq_true_eq]
 | .fn f a c,b=>by cases b<;>simp only [eqV,Bool.false_eq_true,reduceCtorEq,x56 a,x56 c,V.fn.injEq,Bool.and_eq_true,decide_eq_true_eq]
 | .ifc t a,b=>by cases b<;>simp only [eqV,Bool.false_eq_true,reduceCtorEq,x7E a,V.ifc.injEq,Bool.and_eq_true,decide_eq_true_eq]
 | .mp a,e=>by cases e<;>simp [eqV]
 | .opq,e=>by cases e<;>simp [eqV]
theorem x56:∀ a b:List V,eqVs a b=true↔a=b
 | [],b=>by cases b<;>simp [eqVs]
 | a::as,b=>by cases b<;>simp only [eqVs,Bool.false_eq_true,reduceCtorEq,x7E a,x56 as,Bool.and_eq_true,List.cons.injEq]
theorem x8U:∀ a b:List (List V),xer a b=true↔a=b
 | [],b=>by cases b<;>simp [xer]
 | a::as,b=>by cases b<;>simp only [xer,Bool.false_eq_true,reduceCtorEq,x56 a,x8U as,Bool.and_eq_true,List.cons.injEq]
end
inductive Obj where
 | dead
 | box (t:TypeId) (cs:List V)
 | row (t:TypeId) (sz e:Nat) (rows:List (List V))
 | mmap (es:List (Value×V))
 deriving Inhabited
def x9A:List (Value×V)→List (Value×V)→Bool
 | [],[]=>true
 | a::as,b::bs=>(eqSc a.1 b.1&&eqV a.2 b.2)&&x9A as bs
 | _,_=>false
theorem x9z:∀ a b:List (Value×V),x9A a b=true↔a=b
 | [],b=>by cases b<;>simp [x9A]
 | (k,v)::as,b=>by
  cases b with
  | nil=>simp [x9A]
  | cons p bs=>obtain ⟨j,u⟩:=p;simp only [x9A,xdd,x7E,x9z as,Bool.and_eq_true,List.cons.injEq,Prod.mk.injEq]
def xbg:Obj→Obj→Bool
 | .dead,.dead=>true
 | .box t cs,.box u ds=>decide (t=u)&&eqVs cs ds
 | .row t z e rs,.row u y f ss=>decide (t=u)&&(decide (z=y)&&(decide (e=f)&&xer rs ss))
 | .mmap es,.mmap fs=>x9A es fs
 | _,_=>false
theorem x8W:∀ a b:Obj,xbg a b=true↔a=b
 | .dead,b=>by cases b<;>simp [xbg]
 | .box t cs,b=>by cases b<;>simp [xbg,x56]
 | .row t z e rs,b=>by cases b<;>simp [xbg,x8U]
 | .mmap es,b=>by cases b<;>simp [xbg,x9z]
def eqOO:Option Obj→Option Obj→Bool
 | none,none=>true
 | some a,some b=>xbg a b
 | _,_=>false
theorem x7m (a b:Option Obj):eqOO a b=true↔a=b:=by
 cases a<;>cases b<;>simp [eqOO,x8W]
abbrev Heap:=List Obj
abbrev Env:=Nat→V
def Env.upd (en:Env) (t:Nat) (v:V):Env:=fun x=>if x=t then v else en x
def Env.put (en:Env):Option Nat→V→Env
 | some t,v=>en.upd t v
 | none,_=>en
def V.cells:V→List V
 | .agg cs=>cs
 | v=>[v]
abbrev V.int (n:Int):V:=.sc (.int .i64 n)
abbrev V.bool (b:Bool):V:=.sc (.bool b)
abbrev V.str (s:ByteArray):V:=.sc (.string s)
inductive Opd where
 | tmp (t:Nat)
 | val (v:V)
 | qtmp (qs:List Nat) (t:Nat)
 deriving Inhabited
def Opd.get (en:Env):Opd→V
 | .tmp t=>en t
 | .val v=>v
 | .qtmp qs t=>match en t with
  | .fn (.func k) a c=>if qs.contains k then .fn (.func k) a c else .undef
  | _=>.undef
def lim:Nat:=2 ^ 36
inductive NK where
 | ptr | func | iface | map | slice
 deriving Inhabited,DecidableEq
inductive LK where
 | b | i | s
 deriving Inhabited,DecidableEq
inductive AOp where
 | mv (x:Opd)
 | pick (c a b:Opd)
 | alloc (t:TypeId) (zs:List V)
 | box (t:TypeId) (x:Opd)
 | build (zs:List V) (parts:List (Nat×Nat×Opd))
 | bslice (w:Bool) (t:TypeId) (sz:Nat) (zs:List V) (len:Nat) (parts:List (Nat×Opd))
 | load (n:Option Nat) (a:Opd)
 | store (n:Nat) (a x:Opd)
 | nilCheck (x:Opd)
 | bin (op:BinOp) (x y:Opd)
 | eqBool (neg:Bool) (x y:Opd)
 | isNil (neg:Bool) (k:NK) (x:Opd)
 | eqAgg (neg:Bool) (leaves:List (Nat×LK)) (x y:Opd)
 | un (op:UnOp) (x:Opd)
 | conv (k:IntKind) (x:Opd)
 | strOf (x:Opd)
 | bytesOf (x:Opd)
 | makeIface (t:TypeId) (x:Opd)
 | makeFunc (f:Fn) (first captured:List Opd)
 | makeSlice (t:TypeId) (sz:Nat) (zs:List V) (len cap:Opd)
 | sliceStr (x:Opd) (lo hi:Option Opd)
 | slice (sz:Nat) (x:Opd) (lo hi mx:Option Opd)
 | sliceArr (n sz:Nat) (x:Opd) (lo hi:Option Opd)
 | fieldAddr (off:Nat) (x:Opd)
 | field (n:Option Nat) (off:Nat) (x:Opd)
 | indexS (sz:Nat) (x i:Opd)
 | indexA (n sz:Nat) (x i:Opd)
 | idxArr (m:Option Nat) (n sz:Nat) (x i:Opd)
 | idxStr (x i:Opd)
 | extract (x:Opd) (i:Nat)
 | lenStr (x:Opd)
 | len (x:Opd)
 | lenC (n:Nat)
 | mnmx (mx:Bool) (xs:List Opd)
 | append (t:TypeId) (sz:Nat) (s x:Opd)
 | call (f:Opd) (args:List Opd)
 | callK (f:Opd) (args:List Opd) (ts:List Nat)
 | markB (x:Opd)
 | idStr (x:Opd)
 | uncast (x:Opd)
 | cast (u:TypeId) (s:Nat) (x:Opd)
 | eqPtr (neg:Bool) (x y:Opd)
 | sliceData (x:Opd)
 | strData (u:TypeId) (x n:Opd)
 | cap (x:Opd)
 | loadF (n:Option Nat) (a:Opd)
 | indexF (sz:Nat) (x i:Opd)
 | allocA (t:TypeId) (sz:Nat) (zs:List V)
 | boxA (t:TypeId) (sz:Nat) (x:Opd)
 | sliceArrF (n sz:Nat) (x:Opd) (lo hi:Option Opd)
 | copy (sz:Nat) (d x:Opd)
 | clear (sz:Nat) (zs:List V) (x:Opd)
 | boxF (n:Option Nat) (x:Opd)
 | makeMap
 | lookup (kd:LK) (z:V) (ok:Bool) (m k:Opd)
 | mapUpdate (kd:LK) (m k x:Opd)
 | lenM (m:Opd)
 | eqIfc (neg:Bool) (tab:List (TypeId×LK)) (x y:Opd)
 | fail
 deriving Inhabited
structure AOper where
 dst:Option Nat
 op:AOp
 guard:Option (Nat×Bool)
 off:List Nat
 deriving Inhabited
inductive ACode where
 | skip
 | ret
 | seq (a b:ACode)
 | cond (c:Opd) (a b:ACode)
 | region (ops:List AOper)
 | regionM (ops:List AOper) (rest:List (List AOper)) (ps:List (List Nat×List Nat))
 | block (id:Nat) (c:ACode)
 | loop (c:ACode)
 | exit (id:Nat)
 | fail
 deriving Inhabited
inductive ARes where
 | tmp (t:Nat)
 | cell (t:Nat) (n:Option Nat)
 deriving Inhabited
structure AFunc where
 nparams:Nat
 ntmps:Nat
 pure:Bool
 frz:Bool:=false
 bz:List Nat:=[]
 br:List Nat:=[]
 results:List ARes
 body:ACode
 deriving Inhabited
def zo (k:IntKind) (n:Int):Option V:=some (.sc (.int k (k.wrap n)))
def zzc (op:BinOp) (k:IntKind) (a b:Int):Option V :=
 match op with
 | .add=>some (.sc (.int k (k.wrap (a+b))))
 | .sub=>some (.sc (.int k (k.wrap (a-b))))
 | .mul=>some (.sc (.int k (k.wrap (a*b))))
 | .quo=>if b=0 then none else some (.sc (.int k (k.wrap (a.tdiv b))))
 | .rem=>if b=0 then none else some (.sc (.int k (a.tmod b)))
 | .and=>some (.sc (.int k (k.wrap (BitVec.ofInt k.bits a &&& BitVec.ofInt k.bits b).toNat)))
 | .or=>some (.sc (.int k (k.wrap (BitVec.ofInt k.bits a ||| BitVec.ofInt k.bits b).toNat)))
 | .xor=>some (.sc (.int k (k.wrap (BitVec.ofInt k.bits a ^^^ BitVec.ofInt k.bits b).toNat)))
 | .andNot=>some (.sc (.int k (k.wrap (BitVec.ofInt k.bits a &&& ~~~ BitVec.ofInt k.bits b).toNat)))
 | .eql=>some (.bool (a==b))
 | .neq=>some (.bool (a != b))
 | .lss=>some (.bool (decide (a<b)))
 | .leq=>some (.bool (decide (a≤b)))
 | .gtr=>some (.bool (decide (a > b)))
 | .geq=>some (.bool (decide (a ≥ b)))
 | _=>none
def zE (op:BinOp) (a b:ByteArray):Option V :=
 match op with
 | .add=>if a.size+b.size≤lim then some (.str (a++b)) else none
 | .eql=>some (.bool (a.toList==b.toList))
 | .neq=>some (.bool (!(a.toList==b.toList)))
 | .lss=>some (.bool (Op.bytesLess a.toList b.toList))
 | .leq=>some (.bool (Op.bytesLess a.toList b.toList||a.toList==b.toList))
 | .gtr=>some (.bool (!(Op.bytesLess a.toList b.toList||a.toList==b.toList)))
 | .geq=>some (.bool (!(Op.bytesLess a.toList b.toList)))
 | _=>none
def isNil:NK→V→Option Bool
 | .ptr,.sc (.pointer none) | .func,.sc .nilFunc | .iface,.sc .nilIface | .map,.sc (.map none) | .slice,.sc (.slice none 0 0)=>some true
 | .ptr,.ptr .. | .ptr,.rptr .. | .ptr,.eptr .. | .func,.fn .. | .iface,.ifc .. | .map,.mp .. | .slice,.hsl ..=>some false
 | .slice,.slc _ _ (_::_)=>some false
 | _,_=>none
def bin (op:BinOp):V→V→Option V
 | .sc (.int k a),.sc (.int j b) =>
  match op with
  | .shl=>if b<0 then none else some (.sc (.int k (k.wrap (a*2 ^ (min b.toNat k.bits)))))
  | .shr=>if b<0 then none else some (.sc (.int k (a.fdiv (2 ^ (min b.toNat k.bits)))))
  | _=>if k=j then zzc op k a b else none
 | .sc (.string a),.sc (.string b)=>zE op a b
 | _,_=>none
def x6J:LK→V→V→Option Bool
 | .i,.sc (.int k a),.sc (.int j b)=>if k=j then some (a==b) else none
 | .b,.sc (.bool a),.sc (.bool b)=>some (a==b)
 | .s,.sc (.string a),.sc (.string b)=>some (a==b)
 | _,_,_=>none
def x1K (xs ys:List V):List (Nat×LK)→Option Bool
 | []=>some true
 | o::os=>match xs[o.1]?,ys[o.1]? with
  | some x,some y=>(x6J o.2 x y).bind fun t=>(x1K xs ys os).map fun u=>t&&u
  | _,_=>none
def unary (op:UnOp):V→Option V
 | .sc (.int k n)=>match op with
  | .neg=>some (.sc (.int k (k.wrap (0-n))))
  | .xor=>some (.sc (.int k (k.wrap (BitVec.ofInt k.bits (if k.signed then -1 else k.max) ^^^ BitVec.ofInt k.bits n).toNat)))
  | _=>none
 | .sc (.bool b)=>match op with
  | .not=>some (.bool (!b))
  | _=>none
 | _=>none
def x72:List (List V)→Option (List UInt8)
 | []=>some []
 | [.sc (.int .u8 n)]::r=>(x72 r).map (UInt8.ofNat n.toNat::·)
 | _=>none
def x43 (s:ByteArray):List (List V):=s.data.toList.map fun c=>[.sc (.int .u8 c.toNat)]
def rowAt (h:Heap) (b e:Nat):Option (Nat×List (List V)) :=
 match h[b]? with
 | some (.row _ sz e' rs)=>if e'=e then some (sz,rs) else none
 | _=>none
def x5u (sz:Nat) (h:Heap):V→Option (List (List V))
 | .slc _ z rs=>if rs.isEmpty||z==sz then some rs else none
 | .hsl b e off len=>match rowAt h b e with
  | some (z,rs)=>if z=sz∧off+len≤rs.length then some ((rs.drop off).take len) else none
  | none=>none
 | .sc (.slice none 0 0)=>some []
 | _=>none
def zk:V→Option Nat
 | .slc _ _ rs=>some rs.length
 | .hsl _ _ _ len=>some len
 | .sc (.slice none 0 0)=>some 0
 | _=>none
def zb (n:Option Nat) (cs:List V) (off:Nat):Option V :=
 match n with
 | none=>cs[off]?
 | some k=>if off+k≤cs.length then some (.agg ((cs.drop off).take k)) else none
def x0E (cs:List V) (off:Nat) (new:List V):List V:=cs.take off++new++cs.drop (off+new.length)
def x3R (sz:Nat) (l:List V):List (List V):=(List.range (l.length/sz)).map fun i=>(l.drop (i*sz)).take sz
def x1h:V→Bool
 | .sc _ | .slc .. | .eptr .. | .opq=>true
 | _=>false
mutual
def x0n (n:Nat):V→Bool
 | .ptr b _ | .hsl b _ _ _ | .rptr b _ _ _ | .mp b=>decide (b<n)
 | .fn _ a c=>x0B n a&&x0B n c
 | .agg cs=>x0B n cs
 | .tup vs=>x0B n vs
 | .ifc _ v=>x0n n v
 | .undef | .sc _ | .slc .. | .eptr .. | .opq=>true
def x0B (n:Nat):List V→Bool
 | []=>true
 | v::r=>x0n n v&&x0B n r
end
def x0H (base b:Nat) (cs:List V):Bool:=decide (base≤b)||x0B (b+1) cs
def zm:V→Bool
 | .agg _ | .tup _ | .undef=>false
 | _=>true
def x0q (zs:List V):List (Nat×Nat×V)→Option (List V)
 | []=>some zs
 | (off,sz,v)::r =>
  if v.cells.length=sz∧v.cells.all zm∧off+sz≤zs.length then x0q (x0E zs off v.cells) r else none
def zv (sz:Nat) (rows:List (List V)):List (Nat×V)→Option (List (List V))
 | []=>some rows
 | (i,v)::r=>if v.cells.length=sz∧v.cells.all zm∧i<rows.length then zv sz (rows.set i v.cells) r else none
def zh (en:Env):List Opd→List V
 | []=>[]
 | x::r=>x.get en::zh en r
def x0g (en:Env):List (Nat×Nat×Opd)→List (Nat×Nat×V)
 | []=>[]
 | (a,b,x)::r=>(a,b,x.get en)::x0g en r
def x0J (en:Env):List (Nat×Opd)→List (Nat×V)
 | []=>[]
 | (a,x)::r=>(a,x.get en)::x0J en r
def zj:V→Option Nat
 | .sc (.int _ n)=>if 0≤n then some n.toNat else none
 | _=>none
def zf (en:Env) (d:Nat):Option Opd→Option Nat
 | none=>some d
 | some x=>zj (x.get en)
def zp (ex:Cp) (e n:Nat):Option Nat→Cp
 | some m=>if m==e then .full else .any
 | none=>if ex.isFull&&e==n then .full else .any
def farV (h:Heap) (sz b ep off lo hi:Nat) (mx:Option Nat):Option V :=
 match rowAt h b ep with
 | some (z,rs)=>if z=sz∧lo≤hi∧off+hi≤rs.length∧mx.isNone=true then some (.hsl b ep (off+lo) (hi-lo)) else none
 | none=>none
def zg (h:Heap) (sz:Nat) (x:V) (lo:Nat) (hi mx:Option Nat):Option (V×Heap) :=
 match x with
 | .slc ex z rs =>
  if (rs.isEmpty||z==sz)=true∧lo≤hi.getD rs.length∧hi.getD rs.length≤rs.length∧mx.getD (hi.getD rs.length)≤rs.length∧hi.getD rs.length≤mx.getD (hi.getD rs.length) then
   some (.slc (zp ex (hi.getD rs.length) rs.length mx) z ((rs.drop lo).take (hi.getD rs.length-lo)),h) else none
 | .hsl b ep off len =>
  if lo≤hi.getD len∧hi.getD len≤len then
   match h[b]? with
   | some (.row t z e' rs) =>
    if z=sz∧e'=ep then
     match mx with
     | none=>some (.hsl b ep (off+lo) (hi.getD len-lo),h)
     | some m =>
      if m=hi.getD len∧lo=0∧off=0∧rs.length=len then (if hi.getD len=len then some (.hsl b ep 0 len,h) else some (.hsl b (ep+1) 0 (hi.getD len),h.set b (.row t sz (ep+1) (rs.take (hi.getD len))))) else if hi.getD len≤m∧off+m≤rs.length then some (.undef,h) else none
    else none
   | _=>none
  else (farV h sz b ep off lo (hi.getD len) mx).map fun v=>(v,h)
 | .sc (.slice none n c)=>if n=0∧c=0∧lo=0∧hi.getD 0=0∧mx.getD 0=0 then some (x,h) else none
 | _=>none
def x9o (mx:Bool):V→List V→Option V
 | x,[]=>some x
 | .sc (.int k a),.sc (.int j b)::r =>
  if k=j then x9o mx (.sc (.int k (if mx then (if a<b then b else a) else (if b<a then b else a)))) r else none
 | _,_=>none
def x5m (sz:Nat) (new:List (List V)):Bool:=new.all fun r=>r.length==sz&&r.all zm
def x1D (base:Nat) (h:Heap) (t:TypeId) (sz:Nat) (s:V) (new:List (List V)):Option (V×Heap) :=
 match new with
 | []=>(x5u sz h s).map fun _=>(s,h)
 | _::_ =>
  match s with
  | .sc (.slice none 0 0)=>if new.length≤lim∧x5m sz new then some (.hsl h.length 0 0 new.length,h++[.row t sz 0 new]) else none
  | .slc ex z rs=>if ex.isFull&&(rs.isEmpty||z==sz)&&decide (rs.length+new.length≤lim)&&x5m sz new then some (.hsl h.length 0 0 (rs.length+new.length),h++[.row t sz 0 (rs++new)]) else none
  | .hsl b e 0 len =>
   match h[b]? with
   | some (.row u z e' rs)=>if u=t∧z=sz∧e'=e∧len≤rs.length∧len+new.length≤lim∧x5m sz new∧new.all (x0H base b) then some (.hsl b (e+1) 0 (len+new.length),h.set b (.row t sz (e+1) (if len=rs.length then rs.take len++new else rs.take len++new++rs.drop (len+new.length)))) else none
   | _=>none
  | _=>none
def x30 (sz:Nat) (h:Heap):V→Option (List (List V))
 | .sc (.string s)=>if sz=1 then some (x43 s) else none
 | x=>x5u sz h x
def zl (h:Heap) (n:Option Nat):V→Option V
 | .ptr b off=>match h[b]? with
  | some (.box _ cs)=>zb n cs off
  | _=>none
 | .rptr b e i off=>match rowAt h b e with
  | some (_,rs)=>(rs[i]?).bind fun cs=>if off+n.getD 1≤cs.length then zb n cs off else if i=0 then zb n rs.flatten off else none
  | none=>none
 | .eptr cs off=>zb n cs off
 | _=>none
def x0y (base:Nat) (h:Heap) (n:Nat) (a x:V):Option Heap :=
 if x.cells.length=n∧x.cells.all zm then
  match a with
  | .ptr b off=>match h[b]? with
   | some (.box t cs)=>if off+n≤cs.length∧x0H base b x.cells then some (h.set b (.box t (x0E cs off x.cells))) else none
   | _=>none
  | .rptr b e i off=>match h[b]? with
   | some (.row t sz e' rs) =>
    if e'=e then
     match rs[i]? with
     | some cs =>
      if off+n≤cs.length∧x0H base b x.cells then some (h.set b (.row t sz e' (rs.set i (x0E cs off x.cells))))
      else if i=0∧off+n≤rs.flatten.length∧x0H base b x.cells then some (h.set b (.row t sz e' (x3R sz (x0E rs.flatten off x.cells)))) else none
     | none=>none
    else none
   | _=>none
  | _=>none
 else none
def zq (n:Nat):V→Option V
 | .ptr b o=>some (.ptr b (o+n))
 | .rptr b e i o=>some (.rptr b e i (o+n))
 | .eptr cs o=>some (.eptr cs (o+n))
 | _=>none
def zi (h:Heap) (s k:Nat):V→Option V
 | .slc _ z rs=>if z=s then (rs[k]?).map fun cs=>V.eptr cs 0 else none
 | .hsl b e off len=>match rowAt h b e with
  | some (z,rs)=>if z=s∧k<len∧off+len≤rs.length then some (.rptr b e (off+k) 0) else none
  | none=>none
 | _=>none
def xan (h:Heap) (b:Nat):Option (TypeId×List V) :=
 match h[b]? with
 | some (.box t cs)=>some (t,cs)
 | _=>none
def x9R (h:Heap):V→Option V
 | .sc (.pointer none)=>some (.sc (.pointer none))
 | .ptr b off=>(xan h b).bind fun p=>if off<p.2.length then some (.ptr b off) else none
 | _=>none
def xii (h:Heap) (u:TypeId) (s:Nat):V→Option V
 | .sc (.pointer none)=>some (.sc (.pointer none))
 | .ptr b 0=>(xan h b).bind fun p=>if p.1=u∧p.2.length=s then some (.ptr b 0) else none
 | _=>none
def x7w (h:Heap):V→V→Option Bool
 | .sc (.pointer none),.sc (.pointer none)=>some true
 | .sc (.pointer none),.ptr .. | .ptr ..,.sc (.pointer none)=>some false
 | .ptr b o,.ptr c p=>(xan h b).bind fun _=>(xan h c).map fun _=>b==c&&o==p
 | _,_=>none
def x1F:V→Option Nat
 | .ptr b _ | .rptr b _ _ _ | .hsl b _ _ _ | .mp b=>some b
 | _=>none
def xbD (tab:List (TypeId×LK)):V→V→Option Bool
 | .sc .nilIface,.ifc _ _ | .ifc _ _,.sc .nilIface=>some false
 | .ifc t a,.ifc u b=>if t=u then (tab.lookup t).bind fun k=>x6J k a b else some false
 | _,_=>none
def xdX:LK→V→Option Value
 | .s,.sc (.string a)=>some (.string a)
 | .i,.sc (.int .i64 a)=>some (.int .i64 a)
 | .b,.sc (.bool a)=>some (.bool a)
 | _,_=>none
def xfM:Value→Value→Option Bool
 | .string a,.string b=>some (a==b)
 | .int k a,.int j b=>if k=j then some (a==b) else none
 | .bool a,.bool b=>some (a==b)
 | _,_=>none
def xeo (k:Value):List (Value×V)→Nat→Option (Option (Nat×V))
 | [],_=>some none
 | e::es,i=>match xfM k e.1 with
  | some true=>some (some (i,e.2))
  | some false=>xeo k es (i+1)
  | none=>none
def xbP (h:Heap) (kd:LK) (z:V) (m k:V):Option (V×Bool) :=
 (xdX kd k).bind fun key=>match m with
  | .sc (.map none)=>some (z,false)
  | .mp b=>match h[b]? with
   | some (.mmap es)=>(xeo key es 0).map fun r=>match r with
    | some (_,v)=>(v,true)
    | none=>(z,false)
   | _=>none
  | _=>none
def x9Q (base:Nat) (h:Heap) (kd:LK) (m k x:V):Option Heap :=
 (xdX kd k).bind fun key=>match m with
  | .mp b=>match h[b]? with
   | some (.mmap es) =>
    if x.cells.all zm∧x0H base b [x] then
     (xeo key es 0).map fun r=>match r with
      | some (i,_)=>h.set b (.mmap (es.set i (key,x)))
      | none=>h.set b (.mmap (es++[(key,x)]))
    else none
   | _=>none
  | _=>none
def xhL (h:Heap) (m:V):Option Nat :=
 match m with
 | .sc (.map none)=>some 0
 | .mp b=>match h[b]? with
  | some (.mmap es)=>some es.length
  | _=>none
 | _=>none
def x6p (h:Heap):V→Option V
 | .sc (.slice none 0 0)=>some (.sc (.pointer none))
 | .hsl b e off len=>match rowAt h b e with
  | some _=>if 0<len then some (.rptr b e off 0) else none
  | none=>none
 | _=>none
def x7a (h:Heap) (u:TypeId) (k:Nat):V→Option (V×Heap)
 | .sc (.pointer none)=>if k=0 then some (.str .empty,h) else none
 | .rptr b e 0 0=>match h[b]? with
  | some (.row t sz e' rs)=>if t=u∧sz=1∧e'=e∧0<k∧k≤rs.length∧k≤lim then (x72 (rs.take k)).map fun l=>(.str ⟨l.toArray⟩,h.set b .dead) else none
  | _=>none
 | _=>none
def x9c (base:Nat) (h:Heap) (sz:Nat) (d:V) (new:List (List V)):Option (Nat×Heap) :=
 match zk d with
 | none=>none
 | some m =>
  if min new.length m=0 then some (0,h) else
  match d with
  | .hsl b e off len=>match h[b]? with
   | some (.row t z e' rs) =>
    if z=sz∧e'=e∧off+len≤rs.length∧x5m sz (new.take (min new.length len))∧(new.take (min new.length len)).all (x0H base b) then
     some (min new.length len,h.set b (.row t z e' (rs.take off++new.take (min new.length len)++rs.drop (off+(new.take (min new.length len)).length)))) else none
   | _=>none
  | _=>none
def capV:V→Option Nat
 | .sc (.slice none 0 0)=>some 0
 | .slc ex _ rs=>if ex.isFull then some rs.length else none
 | _=>none
def step (base:Nat) (en:Env) (h:Heap):AOp→Option (V×Heap)
 | .mv x=>some (x.get en,h)
 | .pick c a b=>match c.get en with
  | .sc (.bool t)=>some (if t then a.get en else b.get en,h)
  | _=>none
 | .alloc t zs=>some (.ptr h.length 0,h++[.box t zs])
 | .box t x=>if (x.get en).cells.all zm then some (.ptr h.length 0,h++[.box t (x.get en).cells]) else none
 | .build zs ps=>(x0q zs (x0g en ps)).map fun cs=>(.agg cs,h)
 | .bslice w t sz zs n ps=>(zv sz (List.replicate n zs) (x0J en ps)).bind fun rs =>
   if w then (if rs.all (fun r=>r.all zm) then some (.hsl h.length 0 0 rs.length,h++[.row t sz 0 rs]) else none)
   else if rs.all (fun r=>r.all x1h) then some (.slc .lit sz rs,h)
   else if rs.all (fun r=>r.all zm) then some (.hsl h.length 0 0 rs.length,h++[.row t sz 0 rs]) else none
 | .load n a=>(zl h n (a.get en)).map fun v=>(v,h)
 | .store n a x=>(x0y base h n (a.get en) (x.get en)).map fun h'=>(.undef,h')
 | .nilCheck x=>match x.get en with
  | .ptr b o=>some (.ptr b o,h)
  | .rptr b e i o=>some (.rptr b e i o,h)
  | .eptr cs o=>some (.eptr cs o,h)
  | .fn (.func f) a c=>some (.fn (.func f) a c,h)
  | _=>none
 | .bin op x y=>(bin op (x.get en) (y.get en)).map fun v=>(v,h)
 | .eqBool neg x y=>match x.get en,y.get en with
  | .sc (.bool a),.sc (.bool b)=>some (.bool (if neg then !(a==b) else (a==b)),h)
  | _,_=>none
 | .isNil neg k x=>(isNil k (x.get en)).map fun b=>(.bool (if neg then !b else b),h)
 | .eqAgg neg ls x y=>match x.get en,y.get en with
  | .agg xs,.agg ys=>(x1K xs ys ls).map fun t=>(.bool (if neg then !t else t),h)
  | _,_=>none
 | .un op x=>(unary op (x.get en)).map fun v=>(v,h)
 | .conv k x=>match x.get en with
  | .sc (.int _ n)=>some (.sc (.int k (k.wrap n)),h)
  | _=>none
 | .strOf x=>(x5u 1 h (x.get en)).bind fun rs=>(x72 rs).map fun l=>(.str ⟨l.toArray⟩,h)
 | .bytesOf x=>match x.get en with
  | .sc (.string s)=>if s.size≤lim then some (.slc .any 1 (x43 s),h) else none
  | _=>none
 | .makeIface t x=>if zm (x.get en) then some (.ifc t (x.get en),h) else none
 | .makeFunc f a c=>some (.fn f (zh en a) (zh en c),h)
 | .makeSlice t sz zs l c=>match zj (l.get en),zj (c.get en) with
  | some n,some m=>if n≤m∧m≤lim then some (.hsl h.length 0 0 n,h++[.row t sz 0 (List.replicate n zs)]) else none
  | _,_=>none
 | .sliceStr x lo hi=>match x.get en with
  | .sc (.string s)=>(zf en 0 lo).bind fun l=>(zf en s.size hi).bind fun e =>
    if l≤e∧e≤s.size then some (.str (s.extract l e),h) else none
  | _=>none
 | .slice sz x lo hi mx=>(zf en 0 lo).bind fun l=>match hi,mx with
   | none,none=>zg h sz (x.get en) l none none
   | some e,none=>(zj (e.get en)).bind fun e=>zg h sz (x.get en) l (some e) none
   | some e,some m=>(zj (e.get en)).bind fun e=>(zj (m.get en)).bind fun m=>zg h sz (x.get en) l (some e) (some m)
   | none,some _=>none
 | .sliceArr n sz x lo hi=>match x.get en,zf en 0 lo,zf en n hi with
  | .eptr cs 0,some l,some e =>
   if l=0∧e=n∧n*sz=cs.length∧0<sz∧0<n then some (.slc .full sz ((List.range n).map fun i=>(cs.drop (i*sz)).take sz),h) else none
  | .rptr b ep 0 0,some l,some e=>match rowAt h b ep with
   | some (z,rs)=>if z=sz∧rs.length=n∧l≤e∧e≤n then some (.hsl b ep l (e-l),h) else none
   | none=>none
  | _,_,_=>none
 | .fieldAddr off x=>(zq off (x.get en)).map fun v=>(v,h)
 | .field n off x=>match x.get en with
  | .agg cs=>(zb n cs off).map fun v=>(v,h)
  | _=>none
 | .indexS sz x i=>(zj (i.get en)).bind fun k=>(zi h sz k (x.get en)).map fun v=>(v,h)
 | .indexA n sz x i=>(zj (i.get en)).bind fun k=>if k<n then (zq (k*sz) (x.get en)).map fun v=>(v,h) else none
 | .idxArr m n sz x i=>(zj (i.get en)).bind fun k=>if k<n then match x.get en with
   | .agg cs=>(zb m cs (k*sz)).map fun v=>(v,h)
   | _=>none
  else none
 | .idxStr x i=>(zj (i.get en)).bind fun k=>match x.get en with
  | .sc (.string s)=>(s[k]?).map fun c=>(.sc (.int .u8 c.toNat),h)
  | _=>none
 | .extract x i=>match x.get en with
  | .tup vs=>(vs[i]?).map fun v=>(v,h)
  | _=>none
 | .lenStr x=>match x.get en with
  | .sc (.string s)=>some (.int s.size,h)
  | _=>none
 | .len x=>(zk (x.get en)).map fun (n:Nat)=>(.int (n:Int),h)
 | .lenC n=>some (.int n,h)
 | .mnmx mx xs=>match zh en xs with
  | x::r=>(x9o mx x r).map fun v=>(v,h)
  | []=>none
 | .append t sz s x=>(x30 sz h (x.get en)).bind fun new=>x1D base h t sz (s.get en) new
 | .markB x=>match x.get en with
  | .slc .lit 1 (r::rs)=>some (.slc .lit 1 (r::rs),h)
  | _=>none
 | .idStr x=>match x.get en with
  | .sc (.string s)=>some (.str s,h)
  | _=>none
 | .uncast x=>(x9R h (x.get en)).map fun v=>(v,h)
 | .cast u s x=>(xii h u s (x.get en)).map fun v=>(v,h)
 | .eqPtr neg x y=>(x7w h (x.get en) (y.get en)).map fun b=>(.bool (if neg then !b else b),h)
 | .sliceData x=>(x6p h (x.get en)).map fun v=>(v,h)
 | .strData u x n=>match n.get en with
  | .sc (.int .i64 k)=>if 0≤k then x7a h u k.toNat (x.get en) else none
  | _=>none
 | .cap x=>(capV (x.get en)).map fun (n:Nat)=>(.int (n:Int),h)
 | .loadF n a=>match a.get en with
  | .eptr cs off=>(zb n cs off).map fun v=>(v,h)
  | _=>none
 | .indexF sz x i=>(zj (i.get en)).bind fun k=>match x.get en with
  | .slc _ z rs=>if z=sz then (rs[k]?).map fun cs=>(.eptr cs 0,h) else none
  | _=>none
 | .allocA t sz zs=>if 0<sz∧zs.length%sz=0∧0<zs.length then some (.rptr h.length 0 0 0,h++[.row t sz 0 (x3R sz zs)]) else none
 | .boxA t sz x=>if 0<sz∧(x.get en).cells.length%sz=0∧0<(x.get en).cells.length∧(x.get en).cells.all zm then some (.rptr h.length 0 0 0,h++[.row t sz 0 (x3R sz (x.get en).cells)]) else none
 | .sliceArrF n sz x lo hi=>match x.get en,zf en 0 lo,zf en n hi with
  | .eptr cs 0,some l,some e =>
   if l=0∧e=n∧n*sz=cs.length∧0<sz∧0<n then some (.slc .full sz ((List.range n).map fun i=>(cs.drop (i*sz)).take sz),h) else none
  | _,_,_=>none
 | .copy sz d x=>(x30 sz h (x.get en)).bind fun new=>(x9c base h sz (d.get en) new).map fun p=>(.int (p.1:Int),p.2)
 | .clear sz zs x=>(zk (x.get en)).bind fun n=>(x9c base h sz (x.get en) (List.replicate n zs)).map fun p=>(.tup [],p.2)
 | .boxF n x=>if ((x.get en).cells.all x1h&&n.all fun k=>(x.get en).cells.length==k)=true then some (.eptr (x.get en).cells 0,h) else none
 | .makeMap=>some (.mp h.length,h++[.mmap []])
 | .lookup kd z ok m k=>(xbP h kd z (m.get en) (k.get en)).map fun p=>(if ok then .tup [p.1,.bool p.2] else p.1,h)
 | .mapUpdate kd m k x=>(x9Q base h kd (m.get en) (k.get en) (x.get en)).map fun h'=>(.undef,h')
 | .lenM m=>(xhL h (m.get en)).map fun (n:Nat)=>(.int (n:Int),h)
 | .eqIfc neg tab x y=>(xbD tab (x.get en) (y.get en)).map fun b=>(.bool (if neg then !b else b),h)
 | .call _ _=>none
 | .callK _ _ _=>none
 | .fail=>none
mutual
def rnV (f:Nat→Nat):V→V
 | .undef=>.undef
 | .sc v=>.sc v
 | .agg cs=>.agg (rnVs f cs)
 | .tup vs=>.tup (rnVs f vs)
 | .slc ex sz rows=>.slc ex sz rows
 | .hsl b e off len=>.hsl (f b) e off len
 | .ptr b off=>.ptr (f b) off
 | .rptr b e i off=>.rptr (f b) e i off
 | .eptr cs off=>.eptr cs off
 | .fn k a c=>.fn k (rnVs f a) (rnVs f c)
 | .ifc t v=>.ifc t (rnV f v)
 | .mp b=>.mp (f b)
 | .opq=>.opq
def rnVs (f:Nat→Nat):List V→List V
 | []=>[]
 | v::r=>rnV f v::rnVs f r
end
def rnO (f:Nat→Nat):Obj→Obj
 | .dead=>.dead
 | .box t cs=>.box t (rnVs f cs)
 | .row t sz e rows=>.row t sz e (rows.map (rnVs f))
 | .mmap es=>.mmap (es.map fun e=>(e.1,rnV f e.2))
def rnI (n:Nat) (p:List Nat) (b:Nat):Nat:=if b<n then b else n+p.getD (b-n) (b-n)
def invB (p q:List Nat):Bool:=p.length==q.length&&(List.range p.length).all fun i=>decide (p.getD i i<p.length)&&(decide (q.getD i i<p.length)&&(q.getD (p.getD i i) (p.getD i i)==i&&p.getD (q.getD i i) (q.getD i i)==i))
def x7n:Heap→Heap→Bool
 | [],[]=>true
 | a::as,b::bs=>xbg a b&&x7n as bs
 | _,_=>false
def xbj (ops:List AOper):List Nat:=ops.filterMap (·.dst)
def isoB (p q:List Nat) (ds:List Nat) (h:Heap) (s1 s0:Env×Heap):Bool :=
 if p.isEmpty then x7n s1.2 s0.2&&ds.all fun t=>eqV (s1.1 t) (s0.1 t)
 else invB p q&&(s1.2.length==h.length+p.length&&(s0.2.length==h.length+p.length &&
  (((x7n (s1.2.take h.length) h&&x7n (s0.2.take h.length) h)||(List.range h.length).all fun b=>eqOO s0.2[b]? ((s1.2[b]?).map (rnO (rnI h.length p)))) &&
  ((List.range p.length).all (fun i=>eqOO s0.2[h.length+i]? ((s1.2[h.length+q.getD i i]?).map (rnO (rnI h.length p))))&&ds.all fun t=>eqV (s0.1 t) (rnV (rnI h.length p) (s1.1 t))))))
inductive Ex where
 | normal
 | exit (id:Nat)
 | ret
 deriving Inhabited,DecidableEq
def zr (v:V) (args:List V):Option (FuncId×List V) :=
 match v with
 | .fn (.func f) a c=>some (f,a++args++c)
 | _=>none
abbrev x3T:=Nat→FuncId→List V→Heap→Option (V×Heap)
def oO:Option Opd→List Opd
 | none=>[]
 | some x=>[x]
def AOp.opds:AOp→List Opd
 | .mv x | .box _ x | .load _ x | .nilCheck x | .isNil _ _ x | .un _ x | .conv _ x | .strOf x | .bytesOf x | .makeIface _ x | .fieldAddr _ x | .field _ _ x | .extract x _ | .lenStr x | .len x | .markB x | .idStr x | .loadF _ x | .uncast x | .cast _ _ x | .sliceData x | .cap x | .boxA _ _ x | .boxF _ x | .lenM x | .clear _ _ x=>[x]
 | .pick c a b=>[c,a,b]
 | .alloc _ _ | .allocA .. | .lenC _ | .makeMap | .fail=>[]
 | .build _ ps=>ps.map (·.2.2)
 | .bslice _ _ _ _ _ ps=>ps.map (·.2)
 | .store _ a x | .eqPtr _ a x | .strData _ a x | .bin _ a x | .eqBool _ a x | .eqAgg _ _ a x | .makeSlice _ _ _ a x | .indexS _ a x | .indexF _ a x | .indexA _ _ a x | .idxArr _ _ _ a x | .idxStr a x | .append _ _ a x | .copy _ a x | .lookup _ _ _ a x | .eqIfc _ _ a x=>[a,x]
 | .mapUpdate _ m k x=>[m,k,x]
 | .makeFunc _ a c=>a++c
 | .sliceStr x lo hi | .sliceArr _ _ x lo hi | .sliceArrF _ _ x lo hi=>x::(oO lo++oO hi)
 | .slice _ x lo hi mx=>x::(oO lo++oO hi++oO mx)
 | .mnmx _ xs=>xs
 | .call f xs=>f::xs
 | .callK f xs ts=>f::(xs++ts.map .tmp)
def x5c (en:Env) (o:AOper):Bool :=
 o.off.all fun t=>match x1F (en t) with
  | some b=>o.op.opds.all fun x=>x1F (x.get en) != some b
  | none=>false
def xaS (en:Env) (h h':Heap) (ts:List Nat):Bool:=ts.all fun t=>match x1F (en t) with | some b=>eqOO h[b]? h'[b]? | none=>true
def evOp (call:x3T) (base:Nat) (en:Env) (h:Heap) (op:AOp):Option (V×Heap) :=
 match op with
 | .call f args=>match zr (f.get en) (zh en args) with
  | some (k,vs)=>call base k vs h
  | none=>none
 | .callK f args ts=>match zr (f.get en) (zh en args) with
  | some (k,vs)=>match call base k vs h with
   | some (v,h')=>if xaS en h h' ts=true then some (v,h') else none
   | none=>none
  | none=>none
 | op=>step base en h op
def x1x (call:x3T) (base:Nat) (en:Env) (h:Heap) (o:AOper):Option (V×Heap):=if x5c en o then evOp call base en h o.op else none
def gOk (v:V) (want:Bool):Option Bool :=
 match v with
 | .sc (.bool t)=>some (t==want)
 | .tup []=>some false
 | _=>none
def x1i (call:x3T) (base:Nat):List AOper→Env→Heap→Option (Env×Heap)
 | [],en,h=>some (en,h)
 | o::r,en,h =>
  match o.guard with
  | none=>match x1x call base en h o with
   | some (v,h')=>x1i call base r (en.put o.dst v) h'
   | none=>none
  | some (g,want)=>match gOk (en g) want with
   | some true=>match x1x call base en h o with
     | some (v,h')=>x1i call base r (en.put o.dst v) h'
     | none=>none
   | some false=>x1i call base r (en.put o.dst (.tup [])) h
   | none=>none
def iter (f:Env→Heap→Option (Ex×Env×Heap)):Nat→Env→Heap→Option (Ex×Env×Heap)
 | 0,_,_=>none
 | n+1,en,h=>match f en h with
  | some (.normal,en',h')=>iter f n en' h'
  | r=>r
def evC (call:x3T) (base n:Nat):ACode→Env→Heap→Option (Ex×Env×Heap)
 | .skip,en,h=>some (.normal,en,h)
 | .ret,en,h=>some (.ret,en,h)
 | .exit id,en,h=>some (.exit id,en,h)
 | .seq a b,en,h=>match evC call base n a en h with
  | some (.normal,en',h')=>evC call base n b en' h'
  | r=>r
 | .fail,_,_=>none
 | .cond c a b,en,h=>match c.get en with
  | .sc (.bool t)=>if t then evC call base n a en h else evC call base n b en h
  | _=>none
 | .region ops,en,h=>match x1i call base ops en h with
  | some (en',h')=>some (.normal,en',h')
  | none=>none
 | .regionM ops rest ps,en,h=>match x1i call base ops en h with
  | some s0=>if rest.all (fun l=>match x1i call base l en h with | some s1=>ps.any fun p=>isoB p.1 p.2 (xbj ops) h s1 s0 | none=>false) then some (.normal,s0.1,s0.2) else none
  | none=>none
 | .block id c,en,h=>match evC call base n c en h with
  | some (.exit i,en',h')=>if i=id then some (.normal,en',h') else some (.exit i,en',h')
  | r=>r
 | .loop c,en,h=>iter (fun en h=>evC call base n c en h) n en h
def zd (en:Env) (h:Heap):ARes→Option V
 | .tmp t=>some (en t)
 | .cell t n=>zl h n (en t)
def ze (en:Env) (h:Heap):List ARes→Option (List V)
 | []=>some []
 | r::rs=>(zd en h r).bind fun v=>(ze en h rs).map (v::·)
def za:List V→V
 | [v]=>v
 | vs=>.tup vs
mutual
def x1Z (h:Heap) (base:Nat):Nat→V→Option V
 | 0,_=>none
 | k+1,.hsl b e off len =>
  if b<base then some (.hsl b e off len) else
  match rowAt h b e with
  | some (sz,rs) =>
   if off+len≤rs.length then
    if rs.all (fun r=>r.all x1h) then some (.slc .any sz ((rs.drop off).take len))
    else (x2G h base k rs).bind fun rs=>if rs.all (fun r=>r.all x1h) then some (.slc .any sz ((rs.drop off).take len)) else none
   else none
  | none=>none
 | k+1,.agg cs=>(x1B h base k cs).map .agg
 | k+1,.tup cs=>(x1B h base k cs).map .tup
 | _+1,.fn f a c=>if x0B base a&&x0B base c then some (.fn f a c) else none
 | _+1,.ifc t v=>if x0n base v then some (.ifc t v) else none
 | _+1,.ptr b o=>if b<base then some (.ptr b o) else none
 | _+1,.rptr b e i o=>if b<base then some (.rptr b e i o) else none
 | _+1,.mp b=>if b<base then some (.mp b) else none
 | _+1,.sc v=>some (.sc v)
 | _+1,.slc ex sz rs=>some (.slc ex sz rs)
 | _+1,.eptr cs o=>some (.eptr cs o)
 | _+1,.undef=>some .undef
 | _+1,.opq=>some .opq
def x1B (h:Heap) (base:Nat):Nat→List V→Option (List V)
 | 0,_=>none
 | _+1,[]=>some []
 | k+1,v::r=>(x1Z h base k v).bind fun v=>(x1B h base k r).map (v::·)
def x2G (h:Heap) (base:Nat):Nat→List (List V)→Option (List (List V))
 | 0,_=>none
 | _+1,[]=>some []
 | k+1,v::r=>(x1B h base k v).bind fun v=>(x2G h base k r).map (v::·)
end
def x4y (call:x3T) (n base:Nat) (F:AFunc) (args:List V) (h:Heap):Option (V×Heap) :=
 if args.length=F.nparams then
  let b:=if F.pure then h.length else base
  match evC call b n F.body (fun t=>args.getD t .undef) h with
  | some (.exit _,_,_)=>none
  | some (_,en,h')=>(ze en h' F.results).bind fun rs =>
    if F.pure then (x1Z h' b n (za rs)).map fun v=>(v,h'.take b)
    else some (za rs,h')
  | none=>none
 else none
def x0j (X:FuncId→Option (Nat→List V→Heap→Option (V×Heap))) (F:FuncId→Option AFunc):Nat→x3T
 | 0,_,_,_,_=>none
 | n+1,base,f,args,h =>
  match X f with
  | some g=>g base args h
  | none=>match F f with
   | some fn=>x4y (x0j X F n) n base fn args h
   | none=>none
end
section
def scOf:Value→Option V
 | .bool b=>some (.sc (.bool b))
 | .int k n=>some (.sc (.int k n))
 | .string s=>some (.sc (.string s))
 | .pointer none=>some (.sc (.pointer none))
 | .slice none 0 0=>some (.sc (.slice none 0 0))
 | .map none=>some (.sc (.map none))
 | .nilFunc=>some (.sc .nilFunc)
 | .nilIface=>some (.sc .nilIface)
 | _=>none
def x7v:List Value→Option (List V)
 | []=>some []
 | v::r=>(scOf v).bind fun v=>(x7v r).map (v::·)
def xhb:Value→Option V
 | .agg cs=>(x7v cs.toList).map .agg
 | v=>scOf v
section
variable (P:Program) (gl:Nat→Option (List V))
def opd:Operand→Option Opd
 | .tmp t=>some (.tmp t)
 | .const v=>(xhb v).map .val
 | .global g=>(gl g).map fun cs=>.val (.eptr cs 0)
 | .func f=>some (.val (.fn (.func f) [] []))
def opds:List Operand→Option (List Opd)
 | []=>some []
 | x::r=>(opd gl x).bind fun x=>(opds r).map (x::·)
def opdO:Option Operand→Option (Option Opd)
 | none=>some none
 | some x=>(opd gl x).map some
def x2P (t:TypeId):Option Nat:=(P.info? t).map (·.size)
def x5y (t:TypeId):Option (List V):=((P.info? t).bind (·.zero)).bind fun z=>x7v z.cells.toList
def aggT (t:TypeId):Option Bool:=(P.underlying t).map fun d=>match d with | .struct _ | .array _ _=>true | _=>false
def x3U (t:TypeId):Option (Option Nat):=(aggT P t).bind fun a=>(x2P P t).bind fun n=>if a then some (some n) else if n=1 then some none else none
def x2n (e:TypeId):Option Nat:=(P.info? e).bind fun i=>i.zero.bind fun z=>if 0<i.size∧i.bytes≤1024∧z.cells.size=i.size then some i.size else none
def x7z (k:TypeId):Option LK:=match P.underlying k with
 | some .string=>some .s
 | some (.int .i64)=>some .i
 | some .bool=>some .b
 | _=>none
def xh4 (t:TypeId):Option V:=((P.info? t).bind (·.zero)).bind xhb
def x5n:Nat:=1000000007
def xdM:Nat:=2000000011
def glz (z:Bool) (ts rs:List Nat) (gl:Nat→Option (List V)):Nat→Option (List V):=fun g=>if (z&&g==x5n)||ts.any (fun t=>g==x5n+1+t)||rs.any (fun t=>g==xdM+t) then some [] else gl g
def xgK (t:TypeId):Option Nat:=match P.underlying t with
 | some (.array n e)=>if n=0 then none else x2n P e
 | _=>none
def x3M:List Field→Option (List (Nat×Nat))
 | []=>some []
 | f::r=>(x2P P f.type).bind fun n=>(x3M r).map ((f.offset,n)::·)
def x3O (pl:List (Nat×Nat)):List (Nat×Operand)→Option (List (Nat×Nat×Opd))
 | []=>some []
 | (i,x)::r=>(pl[i]?).bind fun p=>(opd gl x).bind fun y=>(x3O pl r).map ((p.1,p.2,y)::·)
def x6q:List (Nat×Operand)→Option (List (Nat×Opd))
 | []=>some []
 | (i,x)::r=>(opd gl x).bind fun y=>(x6q r).map ((i,y)::·)
def x54 (f:TypeId→Option (List (Nat×LK))):List Field→Option (List (Nat×LK))
 | []=>some []
 | x::r=>if x.name = "_" then x54 f r else
   (f x.type).bind fun l=>(x3U P x.type).bind fun n=>if l.all (fun i=>decide (i.1<n.getD 1)) then (x54 f r).map (l.map (fun i=>(x.offset+i.1,i.2))++·) else none
def x3i:Nat→TypeId→Option (List (Nat×LK))
 | 0,_=>none
 | d+1,t=>match P.underlying t with
  | some .bool=>some [(0,.b)]
  | some (.int _)=>some [(0,.i)]
  | some .string=>some [(0,.s)]
  | some (.struct fs)=>if P.stoodInHeld t then none else x54 P (x3i d) fs.toList
  | some (.array n e)=>(x3i d e).bind fun l=>(x3U P e).bind fun m=>if l.all (fun i=>decide (i.1<m.getD 1)) then some ((List.range n).flatMap fun i=>l.map fun j=>(i*P.cellsOf e+j.1,j.2)) else none
  | _=>none
def nkOf:TypeDesc→Option NK
 | .pointer _=>some .ptr
 | .func _ _ _=>some .func
 | .interface _=>some .iface
 | .map _ _=>some .map
 | .slice _=>some .slice
 | _=>none
def x55:NK→Operand→Bool
 | .ptr,.const (.pointer none) | .func,.const .nilFunc | .iface,.const .nilIface | .map,.const (.map none) | .slice,.const (.slice none 0 0)=>true
 | _,_=>false
def xb5:List (TypeId×LK):=(List.range P.types.size).filterMap fun t=>match P.info? t with
 | some i=>if i.comparable then match i.desc with
   | .named _ _=>match P.underlying t with
    | some (.int _)=>some (t,.i)
    | _=>none
   | _=>none
  else none
 | none=>none
def x7G (op:BinOp) (t:TypeId) (x y:Operand):Option AOp :=
 (P.underlying t).bind fun d=>(opd gl x).bind fun a=>(opd gl y).bind fun b =>
 match d with
 | .int _ | .string=>some (.bin op a b)
 | .bool=>match op with
  | .eql=>some (.eqBool false a b)
  | .neq=>some (.eqBool true a b)
  | _=>none
 | .pointer t =>
  if x55 .ptr x||x55 .ptr y then
   match op with
   | .eql=>if x55 .ptr y then some (.isNil false .ptr a) else if x55 .ptr x then some (.isNil false .ptr b) else none
   | .neq=>if x55 .ptr y then some (.isNil true .ptr a) else if x55 .ptr x then some (.isNil true .ptr b) else none
   | _=>none
  else (x2P P t).bind fun s=>if s=0 then none else match op with
   | .eql=>some (.eqPtr false a b)
   | .neq=>some (.eqPtr true a b)
   | _=>none
 | d=>(nkOf d).bind fun k =>
  match op with
  | .eql=>if x55 k y then some (.isNil false k a) else if x55 k x then some (.isNil false k b) else if k=.iface then some (.eqIfc false (xb5 P) a b) else none
  | .neq=>if x55 k y then some (.isNil true k a) else if x55 k x then some (.isNil true k b) else if k=.iface then some (.eqIfc true (xb5 P) a b) else none
  | _=>none
def xiq (op:BinOp) (t:TypeId) (x y:Operand):Option AOp :=
 (x3i P 8 t).bind fun ls=>(opd gl x).bind fun a=>(opd gl y).bind fun b=>match op with
  | .eql=>some (.eqAgg false ls a b)
  | .neq=>some (.eqAgg true ls a b)
  | _=>none
def x6v (src dst:TypeId) (x:Operand):Option AOp :=
 (P.underlying src).bind fun s=>(P.underlying dst).bind fun d=>(opd gl x).bind fun a =>
 match s,d with
 | .int _,.int k=>some (.conv k a)
 | .string,.string=>some (.idStr a)
 | .slice e,.string=>match P.underlying e with
  | some (.int .u8)=>some (.strOf a)
  | _=>none
 | .string,.slice e=>match P.underlying e with
  | some (.int .u8)=>some (.bytesOf a)
  | _=>none
 | .slice _,.slice e=>if src=dst then match P.underlying e with
   | some (.int .u8)=>some (.markB a)
   | _=>none
  else none
 | .pointer t,.unsafePointer=>(x2P P t).bind fun s=>if s=0 then none else some (.uncast a)
 | .unsafePointer,.pointer u=>(x2P P u).bind fun s=>if liesAt P P.depth u (s/P.cellsOf u) 0 u 1 then some (.cast u s a) else none
 | _,_=>none
def x4X (b:Builtin) (ts:List TypeId) (xs:List Operand):Option AOp :=
 match b,ts,xs with
 | .len,[t],[x]=>(P.underlying t).bind fun d=>match d with
  | .string=>(opd gl x).map .lenStr
  | .slice _=>(opd gl x).map .len
  | .array n _=>some (.lenC n)
  | .map _ _=>(opd gl x).map .lenM
  | _=>none
 | .append,[t,u],[s,x]=>(P.underlying t).bind fun d=>match d with
  | .slice e=>(x2n P e).bind fun sz=>(P.underlying u).bind fun du=>match du with
   | .slice _ | .string=>(opd gl s).bind fun a=>(opd gl x).map fun b=>.append e sz a b
   | _=>none
  | _=>none
 | .cap,[t],[x]=>(P.underlying t).bind fun d=>match d with
  | .slice _=>(opd gl x).map .cap
  | _=>none
 | .copy,[t,u],[s,x]=>(P.underlying t).bind fun d=>match d with
  | .slice e=>(x2n P e).bind fun sz=>(P.underlying u).bind fun du=>match du with
   | .slice _ | .string=>(opd gl s).bind fun a=>(opd gl x).map fun b=>.copy sz a b
   | _=>none
  | _=>none
 | .clear,[t],[x]=>(P.underlying t).bind fun d=>match d with
  | .slice e=>(x2n P e).bind fun sz=>(x5y P e).bind fun zs=>(opd gl x).map fun b=>.clear sz zs b
  | _=>none
 | .unsafeSliceData,_,[x]=>(opd gl x).map .sliceData
 | .unsafeString,[pt,_],[x,n]=>(P.underlying pt).bind fun d=>match d with
  | .pointer u=>if P.cellsOf u=1 then (opd gl x).bind fun x=>(opd gl n).map fun n=>.strData u x n else none
  | _=>none
 | .max,_,xs=>(opds gl xs).map (.mnmx true)
 | .min,_,xs=>(opds gl xs).map (.mnmx false)
 | _,_,_=>none
def x9u:Opd→Opd
 | .tmp t=>if (gl (xdM+499999999)).isSome then .qtmp ((List.range 1000).filter fun k=>(gl (xdM+500000000+k)).isSome) t else .tmp t
 | f=>f
def x7o (c:Call):Option AOp :=
 match c.callee with
 | .value f=>(opd gl f).bind fun f=>(opds gl c.args.toList).map (.call (x9u gl f))
 | .builtin b=>x4X P gl b c.argTypes.toList c.args.toList
 | .invoke _ _=>none
def x2Q:Op→Option AOp
 | .move x | .assign x=>(opd gl x).map .mv
 | .pick c a b=>(opd gl c).bind fun c=>(opd gl a).bind fun a=>(opd gl b).map fun b=>.pick c a b
 | .alloc t=>(x5y P t).map fun zs=>match xgK P t with
  | some sz=>.allocA t sz zs
  | none=>.alloc t zs
 | .box t x=>(opd gl x).map fun x=>if (gl x5n).isSome||(gl (x5n+1+t)).isSome then .boxF none x else match xgK P t with
  | some sz=>.boxA t sz x
  | none=>.box t x
 | .build t ps=>(P.underlying t).bind fun d=>match d with
  | .struct fs=>(x5y P t).bind fun zs=>(x3M P fs.toList).bind fun pl=>(x3O gl pl ps.toList).map (.build zs)
  | .array n e=>(x5y P t).bind fun zs=>(x2P P e).bind fun s=>(x3O gl ((List.range n).map fun i=>(i*s,s)) ps.toList).map (.build zs)
  | _=>none
 | .buildSlice t n ps=>(P.underlying t).bind fun d=>match d with
  | .slice e=>(x2n P e).bind fun sz=>(x5y P e).bind fun zs=>if n*sz≤2 ^ 24∧zs.length=sz then (x6q gl ps.toList).map (.bslice (gl (xdM+e)).isSome e sz zs n) else none
  | _=>none
 | .load t a=>(x3U P t).bind fun n=>(opd gl a).map (.load n)
 | .store t a x=>(x2P P t).bind fun n=>(opd gl a).bind fun a=>(opd gl x).map fun x=>.store n a x
 | .nilCheck x=>(opd gl x).map .nilCheck
 | .binOp op t x y _=>match P.underlying t with
  | some (.struct _)=>xiq P gl op t x y
  | some (.array _ _)=>xiq P gl op t x y
  | _=>x7G P gl op t x y
 | .unOp op _ x=>(opd gl x).map (.un op)
 | .convert s d x=>x6v P gl s d x
 | .makeInterface t x=>(P.underlying t).bind fun d=>match d with
  | .interface _=>none
  | _=>(opd gl x).map (.makeIface t)
 | .makeFunc f a c=>(opds gl a.toList).bind fun a=>(opds gl c.toList).map fun c=>.makeFunc f a c
 | .makeSlice t l c=>(P.underlying t).bind fun d=>match d with
  | .slice e=>(x2n P e).bind fun sz=>(x5y P e).bind fun zs=>if zs.length=sz then (opd gl l).bind fun l=>(opd gl c).map fun c=>.makeSlice e sz zs l c else none
  | _=>none
 | .slice t x lo hi mx=>(P.underlying t).bind fun d=>(opd gl x).bind fun x=>(opdO gl lo).bind fun lo=>(opdO gl hi).bind fun hi=>(opdO gl mx).bind fun mx =>
  match d with
  | .string=>if mx.isNone then some (.sliceStr x lo hi) else none
  | .slice e=>(x2n P e).map fun sz=>.slice sz x lo hi mx
  | .array n e=>if mx.isNone then (x2n P e).map fun sz=>.sliceArr n sz x lo hi else none
  | _=>none
 | .fieldAddr t x i=>(P.underlying t).bind fun d=>match d with
  | .struct fs=>(fs[i]?).bind fun f=>(x2P P f.type).bind fun s=>if 0<s then (opd gl x).map (.fieldAddr f.offset) else none
  | _=>none
 | .field t x i=>(P.underlying t).bind fun d=>match d with
  | .struct fs=>(fs[i]?).bind fun f=>(x3U P f.type).bind fun n=>(opd gl x).map (.field n f.offset)
  | _=>none
 | .indexAddr t x i=>(P.underlying t).bind fun d=>(opd gl x).bind fun x=>(opd gl i).bind fun i=>match d with
  | .slice e=>(x2P P e).map fun s=>.indexS s x i
  | .array n e=>(x2P P e).map fun s=>.indexA n s x i
  | _=>none
 | .index t x i=>(P.underlying t).bind fun d=>(opd gl x).bind fun x=>(opd gl i).bind fun i=>match d with
  | .array n e=>(x3U P e).bind fun m=>(x2P P e).map fun s=>.idxArr m n s x i
  | .string=>some (.idxStr x i)
  | _=>none
 | .extract x i=>(opd gl x).map fun x=>.extract x i
 | .makeMap _ none=>some .makeMap
 | .lookup t m k ok=>(P.underlying t).bind fun d=>match d with
  | .map kt et=>(x7z P kt).bind fun kd=>(xh4 P et).bind fun z=>(opd gl m).bind fun m=>(opd gl k).map fun k=>.lookup kd z ok m k
  | _=>none
 | .mapUpdate t m k x | .insert t m k x=>(P.underlying t).bind fun d=>match d with
  | .map kt _=>(x7z P kt).bind fun kd=>(opd gl m).bind fun m=>(opd gl k).bind fun k=>(opd gl x).map fun x=>.mapUpdate kd m k x
  | _=>none
 | .call c=>x7o P gl c
 | _=>none
def x5O (o:Op):AOp:=(x2Q P gl o).getD .fail
def x2Z (nt:Nat) (ops:List Oper) (o:Oper):Option AOper :=
 let op:=x5O P gl o.op
 if o.dst.all (· < nt) then
  match o.guard with
  | none=>some ⟨o.dst,op,none,[]⟩
  | some (j,want)=>((ops[j]?).bind (·.dst)).map fun d=>⟨o.dst,op,some (d,want),[]⟩
 else none
def x5h (nt:Nat) (all:List Oper):List Oper→Option (List AOper)
 | []=>some []
 | o::r=>(x2Z P gl nt all o).bind fun o=>(x5h nt all r).map (o::·)
end
def x1M:List Opd→List Nat
 | []=>[]
 | .tmp t::r=>t::x1M r
 | .val _::r=>x1M r
 | .qtmp _ t::r=>t::x1M r
def AOp.inert:AOp→Bool
 | .mv _ | .pick .. | .build .. | .nilCheck _ | .bin .. | .eqBool .. | .eqAgg .. | .isNil .. | .un .. | .conv .. | .bytesOf _ | .makeIface .. | .makeFunc .. | .sliceStr .. | .sliceArrF .. | .boxF .. | .eqIfc ..
 | .markB _ | .idStr _ | .loadF .. | .indexF .. | .fail | .fieldAddr .. | .field .. | .indexA .. | .idxArr .. | .idxStr .. | .extract .. | .lenStr _ | .len _ | .cap _ | .lenC _ | .mnmx ..=>true
 | _=>false
def AOp.reads:AOp→Bool
 | .load .. | .strOf _ | .indexS .. | .slice _ _ _ _ none | .sliceArr .. | .lookup .. | .lenM _ | .uncast _ | .cast .. | .eqPtr .. | .sliceData _=>true
 | op=>op.inert
def AOper.slots (o:AOper):List Nat:=(match o.guard with | some (g,_)=>[g] | none=>[])++x1M o.op.opds++o.off
def memO (x:Option Nat) (l:List Nat):Bool :=
 match x with
 | some d=>l.contains d
 | none=>false
def AOp.grows (quiet:FuncId→Nat):AOp→Bool
 | .alloc .. | .box .. | .bslice .. | .makeSlice .. | .allocA .. | .boxA .. | .makeMap=>true
 | .call (.val (.fn (.func k) [] [])) _=>quiet k != 0
 | .call (.qtmp qs _) _=>qs.all fun k=>quiet k != 0
 | _=>false
def AOp.inertQ (quiet:FuncId→Nat):AOp→Bool
 | .call (.val (.fn (.func k) [] [])) _=>quiet k==2
 | .call (.qtmp qs _) _=>qs.all fun k=>quiet k==2
 | op=>op.inert
def AOper.clear (x y:AOper):Bool :=
 match y.op with
 | .store _ (.tmp t) _=>x.off.contains t
 | _=>false
def x2R (quiet:FuncId→Nat) (x y:AOper):Bool :=
 !memO x.dst y.slots&&!memO y.dst x.slots&&(match x.dst,y.dst with | some a,some b=>a != b | _,_=>true) &&
  (x.op.inertQ quiet||y.op.inertQ quiet||(x.op.reads&&(y.op.reads||y.op.grows quiet||x.clear y)))
def depB (ops:List Oper):Nat→Nat→Nat→Bool
 | 0,_,_=>false
 | k+1,i,x=>match ops[i]? with
  | some o=>o.after.toList.any fun e=>Region.binds .any e&&(e.on==x||depB ops k e.on x)
  | none=>false
def AOp.plain:AOp→AOp
 | .callK f args _=>.call f args
 | op=>op
def AOper.plain (o:AOper):AOper:={ o with op:=o.op.plain }
def xbk (ts:List Nat):Opd→Bool
 | .tmp t=>ts.contains t
 | .val v=>(x1F v).isNone
 | .qtmp ..=>false
def xbm (x y:AOper):Bool :=
 match y.op with
 | .callK _ _ ts=>!memO x.dst y.plain.slots&&!memO y.dst x.slots&&(match x.dst,y.dst with | some a,some b=>a != b | _,_=>true)&&x.op.reads&&(x.op.inert||(x.op.opds.all (xbk ts)&&!memO x.dst (x1M x.op.opds)))
 | _=>false
def xdC (x z:AOper):Bool:=x.op.inert||!x.op.reads||!memO z.dst (x1M x.op.opds)
def xa5 (quiet:FuncId→Nat) (ops:List Oper) (l:List AOper):List Nat→Bool
 | []=>true
 | x::r=>r.all (fun i=>depB ops ops.length i x||(match l[x]?,l[i]? with | some a,some b=>x2R quiet a b | _,_=>false))&&xa5 quiet ops l r
def x8A:List Nat→Bool
 | []=>true
 | x::r=>!r.contains x&&x8A r
def x8z (quiet:FuncId→Nat) (ops:List Oper) (l:List AOper) (pi:List Nat):Bool :=
 xa5 quiet ops l pi&&pi.length==ops.length&&x8A pi&&pi.all (fun i=>decide (i<ops.length))&&(List.range ops.length).all (fun i=>pi.contains i &&
  (match ops[i]? with | some o=>o.after.toList.all fun e=>!Region.binds .any e||decide (e.on<i) | none=>true))
def x8g (quiet:FuncId→Nat) (ops:List Oper) (l:List AOper):List Nat→Bool
 | []=>true
 | x::r=>r.all (fun i=>(depB ops ops.length i x||x2R quiet (l.getD x default) (l.getD i default)||xbm (l.getD x default) (l.getD i default))&&xdC (l.getD x default) (l.getD i default))&&x8g quiet ops l r
def xbM (quiet:FuncId→Nat) (ops:List Oper) (l:List AOper) (pi:List Nat):Bool :=
 x8g quiet ops l pi&&pi.length==ops.length&&x8A pi&&pi.all (fun i=>decide (i<ops.length))&&(List.range ops.length).all (fun i=>pi.contains i &&
  (match ops[i]? with | some o=>o.after.toList.all fun e=>!Region.binds .any e||decide (e.on<i) | none=>true))
def xk2 (quiet:FuncId→Nat) (ops:List Oper) (l:List AOper) (pi:List Nat) (i:Nat) (o:AOper):AOper :=
 match o.op with
 | .call f args =>
  let pre:=(pi.takeWhile (· != i)).filter fun x=>!depB ops ops.length i x
  if pre.all (fun x=>x2R quiet (l.getD x default) o) then o
  else { o with op:=.callK f args ((pre.filter fun x=>(l.getD x default).op.reads&&!(l.getD x default).op.inert).flatMap fun x=>x1M (l.getD x default).op.opds) }
 | _=>o
def x9v (quiet:FuncId→Nat) (ops:List Oper) (l:List AOper) (pi:List Nat):List AOper:=(List.range l.length).map fun i=>xk2 quiet ops l pi i (l.getD i default)
def AOp.lay:AOp→Bool
 | .alloc .. | .box .. | .makeMap=>true
 | _=>false
def xah (x y:AOper):Bool :=
 y.op.lay&&y.guard.isNone&&y.off.isEmpty&&y.dst.isSome&&!memO y.dst y.slots&&!memO x.dst y.slots&&!memO y.dst x.slots&&(match x.dst,y.dst with | some a,some b=>a != b | _,_=>true)
def x7p (quiet:FuncId→Nat) (l:List AOper) (x i:Nat):Bool:=match l[x]?,l[i]? with | some a,some b=>x2R quiet a b | _,_=>false
def xaQ (l:List AOper) (x i:Nat):Bool:=match l[x]?,l[i]? with | some a,some b=>xah a b | _,_=>false
def x8f (quiet:FuncId→Nat) (ops:List Oper) (l:List AOper) (late:List Nat):List Nat→Bool
 | []=>true
 | x::r=>r.all (fun i=>depB ops ops.length i x||x7p quiet l x i||(late.contains i&&xaQ l x i))&&x8f quiet ops l late r
def xcR (quiet:FuncId→Nat) (ops:List Oper) (l:List AOper) (late:List Nat):List Nat→List Nat→Bool
 | _,[]=>true
 | pre,i::r=>(!late.contains i||r.all fun j=>x7p quiet l i j||pre.all fun x=>x7p quiet l x i||depB ops ops.length j x)&&xcR quiet ops l late (pre++[i]) r
def xa7 (quiet:FuncId→Nat) (ops:List Oper) (l:List AOper) (late pi:List Nat):Bool :=
 x8f quiet ops l late pi&&xcR quiet ops l late [] pi&&pi.length==ops.length&&x8A pi&&pi.all (fun i=>decide (i<ops.length))&&(List.range ops.length).all (fun i=>pi.contains i &&
  (match ops[i]? with | some o=>o.after.toList.all fun e=>!Region.binds .any e||decide (e.on<i) | none=>true))
def lates (l:List AOper):List Nat:=(List.range l.length).filter fun i=>match l[i]? with | some o=>o.op.lay | none=>false
def AOp.frz:AOp→AOp
 | .load n a=>.loadF n a
 | .indexS sz x i=>.indexF sz x i
 | .sliceArr n sz x lo hi=>.sliceArrF n sz x lo hi
 | op=>op
def AOper.frz (o:AOper):AOper:={ o with op:=o.op.frz }
def xeX (l:List AOper):List Nat :=
 (l.flatMap fun o=>match o.op with | .store _ (.tmp t) _=>[t] | _=>[]).filter fun t=>l.all fun o=>o.dst != some t
def AOper.keep (av:List Nat) (o:AOper):AOper:=if o.op.reads&&!o.op.inert then { o with off:=av } else o
def x4E (ops:List Oper) (l:List AOper):Nat→List Nat→List Nat
 | 0,done=>done
 | k+1,done =>
  let ready:=(List.range ops.length).filter fun i=>!done.contains i&&(match ops[i]? with | some o=>o.after.toList.all fun e=>!Region.binds .any e||done.contains e.on | none=>false)
  match ready.find? (fun i=>match l[i]? with | some o=>o.op.reads | none=>false) with
  | some i=>x4E ops l k (done++[i])
  | none=>match ready with
   | i::_=>x4E ops l k (done++[i])
   | []=>done
def x9d (quiet:FuncId→Nat) (ops:List Oper) (l:List AOper):List Nat→List (Nat×Nat)
 | []=>[]
 | x::r=>(r.filter fun i=>!(depB ops ops.length i x||x2R quiet (l.getD x default) (l.getD i default))).map (fun i=>(x,i))++x9d quiet ops l r
def xdk (N:List (Nat×Nat)) (a b:Nat):List (Nat×Nat) :=
 let A:=a::(N.filter fun q=>q.2==a).map (·.1)
 let B:=b::(N.filter fun q=>q.1==b).map (·.2)
 (A.flatMap fun x=>B.map fun y=>(x,y))++N
def taut:Nat→List (Nat×Nat)→List (Nat×Nat)→List (List (Nat×Nat))→Bool
 | 0,_,_,_=>false
 | k+1,N,V,Cs=>V.any (fun q=>N.contains q)||(Cs.any (fun c=>c.all fun q=>N.contains q)||match (Cs.flatMap fun c=>c.filter fun q=>!N.contains q) with
  | (x,i)::_=>taut k (xdk N x i) V Cs&&(x != i&&taut k (xdk N i x) ((x,i)::V) (Cs.filter fun c=>!c.contains (x,i)))
  | _=>false)
def xbJ:List Nat→List (List Nat)
 | []=>[[]]
 | x::r=>(xbJ r).flatMap fun p=>(List.range (p.length+1)).map fun k=>p.take k++x::p.drop k
def xh8 (ops:List Oper) (i:Nat) (done:List Nat):List Nat:=if done.contains i then done else done++((List.range i).filter fun x=>!done.contains x&&depB ops ops.length i x)++[i]
def xaF (ops:List Oper) (l:List AOper) (K done:List Nat):List Nat :=
 (List.range ops.length).foldl (fun done i=>if !done.contains i&&(!K.contains i&&((l.getD i default).op.reads&&(match ops[i]? with | some o=>o.after.toList.all fun e=>!Region.binds .any e||done.contains e.on | none=>false))) then done++[i] else done) done
def xjF (ops:List Oper) (l:List AOper) (K k:List Nat):List Nat :=
 let d:=k.foldl (fun done i=>xaF ops l K (xh8 ops i done)) (xaF ops l K [])
 d++(List.range ops.length).filter fun i=>!d.contains i
def xfl (ops:List Oper) (pi:List Nat):Bool:=(List.range ops.length).all (fun i=>pi.contains i)&&(x8A pi&&pi.all (fun i=>decide (i<ops.length)))
def xhr (quiet:FuncId→Nat) (ops:List Oper) (l:List AOper):List (List Nat) :=
 let pi:=x4E ops l ops.length []
 let K:=(List.range ops.length).filter fun i=>(x9d quiet ops l pi).any fun p=>p.1==i||p.2==i
 let all:=(xbJ K).map (xjF ops l K)
 all.foldl (fun acc c=>if acc.any (fun d=>(x9d quiet ops l d).all fun p=>(x9d quiet ops l c).contains p) then acc else acc++[c]) [pi]
def xdf (ops:List Oper) (K:List Nat):List (Nat×Nat):=K.flatMap fun x=>(K.filter fun i=>depB ops ops.length i x).map fun i=>(x,i)
def xa6 (quiet:FuncId→Nat) (ops:List Oper) (l:List AOper) (Cs:List (List Nat)):Bool :=
 Cs.all (xfl ops)&&(taut 60 (xdf ops ((List.range ops.length).filter fun i=>Cs.any fun c=>(x9d quiet ops l c).any fun p=>p.1==i||p.2==i)) [] (Cs.map (x9d quiet ops l))&&(List.range ops.length).all fun i=>match ops[i]? with | some o=>o.after.toList.all fun e=>!Region.binds .any e||decide (e.on<i) | none=>true)
def xjO (k:Nat):List (List Nat×List Nat):=([],[])::((List.range (k+1)).drop 2).flatMap fun n=>((xbJ (List.range n)).filter fun p=>p != List.range n).map fun p=>(p,(List.range n).map fun i=>p.idxOf i)
def x0U (l:List AOper) (pi:List Nat):List AOper:=pi.map fun i=>l.getD i default
def xag (ops:List Oper) (l:List AOper):Nat→List Nat→List Nat
 | 0,done=>done
 | k+1,done =>
  let ready:=(List.range ops.length).filter fun i=>!done.contains i&&(match ops[i]? with | some o=>o.after.toList.all fun e=>!Region.binds .any e||done.contains e.on | none=>false)
  match ready.find? (fun i=>match l[i]? with | some o=>!o.op.lay | none=>false) with
  | some i=>xag ops l k (done++[i])
  | none=>match ready with
   | i::_=>xag ops l k (done++[i])
   | []=>done
def x9q (ops:List Oper) (l:List AOper):List (List Nat):=[List.range ops.length,x4E ops l ops.length [],xag ops l ops.length []]
def Opd.notTmp (s:Nat):Opd→Bool
 | .tmp u=>u != s
 | .val _=>true
 | .qtmp ..=>false
def xk3 (gl:Nat→Option (List V)) (a1 a2:AOper):Option AOper :=
 match a1.op,a2.op with
 | .alloc t zs,.store n (.tmp s) x =>
  if (a1.guard.isNone&&a2.guard.isNone&&a2.dst.isNone&&a1.off.isEmpty&&a2.off.isEmpty&&a1.dst==some s&&x.notTmp s&&n==zs.length&&(gl (x5n+1+t)).isSome)=true then some ⟨some s,.boxF (some n) x,none,[]⟩ else none
 | _,_=>none
def fuse (gl:Nat→Option (List V)):List AOper→List AOper
 | a1::a2::r=>match xk3 gl a1 a2 with
  | some a=>a::fuse gl r
  | none=>a1::fuse gl (a2::r)
 | l=>l
end
section
section
variable (P:Program) (gl:Nat→Option (List V))
def x7b (quiet:FuncId→Nat) (ops:List Oper) (l:List AOper):ACode :=
 let K:=(List.range ops.length).filter fun i=>(x9d quiet ops l (x4E ops l ops.length [])).any fun p=>p.1==i||p.2==i
 if 6<K.length then .fail else
 match xhr quiet ops l with
 | c0::rest=>if xa6 quiet ops l (c0::rest) then .regionM (x0U l c0) (rest.map (x0U l)) (xjO (min 4 K.length)) else .fail
 | []=>.fail
def xcM (kf:Bool) (quiet:FuncId→Nat) (ops:List Oper) (draw:Bool) (l:List AOper):ACode :=
 if !draw then .region l
 else if x8z quiet ops l (List.range ops.length) then .region l
 else
  let pi:=x4E ops l ops.length []
  if x8z quiet ops l pi then .region (x0U l pi)
  else if x8z quiet ops (l.map (AOper.keep (xeX l))) pi then .region (x0U (l.map (AOper.keep (xeX l))) pi)
  else if kf=true then (if xbM quiet ops (x9v quiet ops l pi) pi then .region (x0U (x9v quiet ops l pi) pi) else x7b quiet ops l)
  else match (x9q ops l).find? fun p=>xa7 quiet ops l (lates l) p with
   | some p=>.region (x0U l p)
   | none=>if x8z quiet ops (l.map AOper.frz) (List.range ops.length) then .region (l.map AOper.frz)
    else match (x9q ops (l.map AOper.frz)).find? fun p=>xa7 quiet ops (l.map AOper.frz) (lates l) p with
     | some p=>.region (x0U (l.map AOper.frz) p)
     | none=>x7b quiet ops l
def xbG (quiet:FuncId→Nat) (ops:List Oper) (draw:Bool) (l:List AOper):ACode :=
 if !draw then .region (l.map AOper.frz)
 else if x8z quiet ops (l.map AOper.frz) (List.range ops.length) then .region (l.map AOper.frz)
 else .fail
def comp (quiet:FuncId→Nat) (frz:Bool) (nt:Nat):Code→Option ACode
 | .skip=>some .skip
 | .ret=>some .ret
 | .exit id=>some (.exit id)
 | .seq a b=>(comp quiet frz nt a).bind fun a=>(comp quiet frz nt b).map fun b=>.seq a b
 | .cond c a b=>(opd gl c).bind fun c=>(comp quiet frz nt a).bind fun a=>(comp quiet frz nt b).map fun b=>.cond c a b
 | .block id c=>(comp quiet frz nt c).map (.block id)
 | .loop c=>(comp quiet frz nt c).map .loop
 | .region _ ops draw=>(x5h P gl nt ops.toList ops.toList).bind fun l=>some (if frz then xbG quiet ops.toList draw l else if draw then xcM (gl (xdM+400000000)).isSome quiet ops.toList draw l else .region (fuse gl l))
 | _=>some .fail
def x6j (nt:Nat):List ResultVar→Option (List ARes)
 | []=>some []
 | .tmp t::r=>if t<nt then (x6j nt r).map (.tmp t::·) else none
 | .cell a t::r=>(x3U P t).bind fun n=>if a<nt then (x6j nt r).map (.cell a n::·) else none
def xdj (quiet:FuncId→Nat) (pure frz:Bool) (bz br:List Nat) (f:Func):Option AFunc :=
 f.body.bind fun b=>(comp P gl quiet frz f.ntmps b).bind fun c=>(x6j P f.ntmps f.results.toList).map fun rs =>
  {nparams:=f.params.size+f.nfree,ntmps:=f.ntmps,pure,frz,bz,br,results:=rs,body:=c }
end
end
section
theorem x4G {en en':Env}:∀ {l:List Opd},(∀ t∈x1M l,en t=en' t)→zh en l=zh en' l
 | [],_=>rfl
 | .tmp t::r,h=>by
  simp only [x1M,List.mem_cons,forall_eq_or_imp] at h
  simp only [zh,Opd.get,h.1,x4G h.2]
 | .val _::r,h=>by
  simp only [x1M] at h
  simp only [zh,Opd.get,x4G h]
 | .qtmp _ t::r,h=>by
  simp only [x1M,List.mem_cons,forall_eq_or_imp] at h
  simp only [zh,Opd.get,h.1,x4G h.2]
theorem x33 {t:Nat}:∀ {l:List Opd},t∈x1M l↔Opd.tmp t∈l∨∃ qs,Opd.qtmp qs t∈l
 | []=>by simp [x1M]
 | .tmp u::r=>by simp [x1M,x33 (l:=r),or_assoc]
 | .val _::r=>by simp [x1M,x33 (l:=r)]
 | .qtmp q u::r=>by
  simp only [x1M,List.mem_cons,x33 (l:=r),reduceCtorEq,false_or,Opd.qtmp.injEq]
  constructor
  ·rintro (rfl | h | ⟨qs,h⟩)
   ·exact .inr ⟨q,.inl ⟨rfl,rfl⟩⟩
   ·exact .inl h
   ·exact .inr ⟨qs,.inr h⟩
  ·rintro (h | ⟨qs,⟨rfl,rfl⟩ | h⟩)
   ·exact .inr (.inl h)
   ·exact .inl rfl
   ·exact .inr (.inr ⟨qs,h⟩)
theorem x5E {l m:List Opd} (h:∀ x∈l,x∈m):∀ t∈x1M l,t∈x1M m:=fun t ht=>by
 rw [x33] at ht ⊢
 rcases ht with ht | ⟨qs,ht⟩
 ·exact .inl (h _ ht)
 ·exact .inr ⟨qs,h _ ht⟩
theorem x6e {en en':Env} {l:List Opd} (h:∀ t∈x1M l,en t=en' t) {x:Opd} (hx:x∈l):x.get en=x.get en':=by
 cases x with
 | val v=>rfl
 | tmp t=>exact h t (x33.2 (.inl hx))
 | qtmp qs t=>simp only [Opd.get,h t (x33.2 (.inr ⟨qs,hx⟩))]
theorem x8w {en en':Env}:∀ {l:List (Nat×Nat×Opd)},(∀ x∈l.map (·.2.2),x.get en=x.get en')→x0g en l=x0g en' l
 | [],_=>rfl
 | (a,b,x)::r,h=>by
  simp only [List.map_cons,List.mem_cons,forall_eq_or_imp] at h
  simp only [x0g,h.1,x8w h.2]
theorem x7O {en en':Env}:∀ {l:List (Nat×Opd)},(∀ x∈l.map (·.2),x.get en=x.get en')→x0J en l=x0J en' l
 | [],_=>rfl
 | (a,x)::r,h=>by
  simp only [List.map_cons,List.mem_cons,forall_eq_or_imp] at h
  simp only [x0J,h.1,x7O h.2]
theorem x3H {en en':Env} {d:Nat} {x:Option Opd} (h:∀ y∈oO x,y.get en=y.get en'):zf en d x=zf en' d x:=by
 cases x with
 | none=>rfl
 | some x=>simp only [zf,h x (by simp [oO])]
theorem xdB {base:Nat} {en en':Env} {h:Heap} {op:AOp} (he:∀ t∈x1M op.opds,en t=en' t):step base en h op=step base en' h op:=by
 have hg:∀ x∈op.opds,x.get en=x.get en':=fun x hx=>x6e he hx
 have hl:∀ l:List Opd,(∀ x∈l,x∈op.opds)→zh en l=zh en' l:=fun l hsub=>x4G fun t ht=>he t (x5E hsub t ht)
 cases op
 case build zs ps=>simp only [step,x8w (by simpa [AOp.opds] using hg)]
 case bslice w t sz zs n ps=>simp only [step,x7O (by simpa [AOp.opds] using hg)]
 case makeFunc f a c=>simp only [step,hl a (by simp [AOp.opds];intro x hx;exact .inl hx),hl c (by simp [AOp.opds];intro x hx;exact .inr hx)]
 case mnmx m xs=>simp only [step,hl xs (by simp [AOp.opds])]
 case call f xs=>simp only [step]
 case callK f xs ts=>simp only [step]
 case sliceStr x lo hi =>
  simp only [AOp.opds,List.mem_cons,List.mem_append] at hg
  simp only [step,hg x (.inl rfl),x3H (x:=lo) (fun y hy=>hg y (.inr (.inl hy)))]
  split
  ·simp only [x3H (x:=hi) (fun y hy=>hg y (.inr (.inr hy)))]
  ·rfl
 case sliceArr n sz x lo hi =>
  simp only [AOp.opds,List.mem_cons,List.mem_append] at hg
  simp only [step,hg x (.inl rfl),x3H (x:=lo) (fun y hy=>hg y (.inr (.inl hy))),x3H (x:=hi) (fun y hy=>hg y (.inr (.inr hy)))]
 case sliceArrF n sz x lo hi =>
  simp only [AOp.opds,List.mem_cons,List.mem_append] at hg
  simp only [step,hg x (.inl rfl),x3H (x:=lo) (fun y hy=>hg y (.inr (.inl hy))),x3H (x:=hi) (fun y hy=>hg y (.inr (.inr hy)))]
 case slice sz x lo hi mx =>
  simp only [AOp.opds,List.mem_cons,List.mem_append] at hg
  simp only [step,hg x (.inl rfl),x3H (x:=lo) (fun y hy=>hg y (.inr (.inl (.inl hy))))]
  cases hi<;>cases mx<;>simp [oO] at hg ⊢<;>simp [hg]
 all_goals
  simp [AOp.opds] at hg
  simp only [step]
  try simp only [hg]
theorem x4F {base:Nat} {en:Env} {h h':Heap} {op:AOp} {v:V} (hi:op.inert=true) (hs:step base en h op=some (v,h')) :
  h'=h∧∀ b2 h2,step b2 en h2 op=some (v,h2):=by
 have fin:∀ {x:Option V},x.map (fun v=>(v,h))=some (v,h')→h'=h∧∀ h2:Heap,x.map (fun v=>(v,h2))=some (v,h2):=by
  intro x hx
  simp only [Option.map_eq_some_iff,Prod.mk.injEq] at hx
  obtain ⟨a,rfl,rfl,rfl⟩:=hx
  exact ⟨rfl,fun _=>rfl⟩
 cases op<;>simp [AOp.inert] at hi<;>simp only [step] at hs ⊢
 all_goals try exact ⟨(fin hs).1,fun _ h2=>(fin hs).2 h2⟩
 all_goals try (simp only [Option.some.injEq,Prod.mk.injEq] at hs;obtain ⟨rfl,rfl⟩:=hs;exact ⟨rfl,fun _ _=>rfl⟩)
 all_goals try (exfalso;simp at hs;done)
 all_goals try (simp only [Option.bind_eq_some_iff] at hs;obtain ⟨a,ha,hs⟩:=hs;simp only [ha,Option.bind_some])
 all_goals try exact ⟨(fin hs).1,fun _ h2=>(fin hs).2 h2⟩
 all_goals try (split at hs<;>first | (exfalso;simp at hs;done) | (simp only [Option.some.injEq,Prod.mk.injEq] at hs;obtain ⟨rfl,rfl⟩:=hs;exact ⟨rfl,fun _ _=>rfl⟩) | exact ⟨(fin hs).1,fun _ h2=>(fin hs).2 h2⟩)
 all_goals try (simp only [Option.map_eq_some_iff,Prod.mk.injEq] at hs;obtain ⟨a,ha,rfl,rfl⟩:=hs;exact ⟨rfl,fun _ _=>by rw [ha];rfl⟩)
 case eqAgg =>
  split at hs
  ·simp only [Option.map_eq_some_iff,Prod.mk.injEq] at hs
   obtain ⟨a,ha,rfl,rfl⟩:=hs
   exact ⟨rfl,fun _ _=>by rw [ha];rfl⟩
  ·simp at hs
 case sliceStr =>
  split at hs
  ·simp only [Option.bind_eq_some_iff] at hs
   obtain ⟨a,ha,b,hb,hs⟩:=hs
   simp only [ha,hb,Option.bind_some]
   split at hs
   ·rename_i hc
    simp only [Option.some.injEq,Prod.mk.injEq] at hs;obtain ⟨rfl,rfl⟩:=hs;exact ⟨rfl,fun _ _=>by rw [if_pos hc]⟩
   ·simp at hs
  ·simp at hs
 case indexA =>
  split at hs
  ·rename_i hc
   simp only [Option.map_eq_some_iff,Prod.mk.injEq] at hs;obtain ⟨a,ha,rfl,rfl⟩:=hs;exact ⟨rfl,fun _ _=>by rw [if_pos hc,ha];rfl⟩
  ·simp at hs
 all_goals
  split at hs
  all_goals try (exfalso;simp at hs;done)
  all_goals try exact ⟨(fin hs).1,fun _ h2=>(fin hs).2 h2⟩
  all_goals try (simp only [Option.map_eq_some_iff,Prod.mk.injEq] at hs;obtain ⟨a,ha,rfl,rfl⟩:=hs;exact ⟨rfl,fun _ _=>by rw [ha];rfl⟩)
  all_goals try (simp only [Option.some.injEq,Prod.mk.injEq] at hs;obtain ⟨rfl,rfl⟩:=hs;exact ⟨rfl,fun _ _=>by simp_all⟩)
 all_goals
  split at hs
  all_goals try (exfalso;simp at hs;done)
  all_goals try exact ⟨(fin hs).1,fun _ h2=>(fin hs).2 h2⟩
  all_goals try (simp only [Option.map_eq_some_iff,Prod.mk.injEq] at hs;obtain ⟨a,ha,rfl,rfl⟩:=hs;exact ⟨rfl,fun _ _=>by simp_all⟩)
  all_goals try (simp only [Option.some.injEq,Prod.mk.injEq] at hs;obtain ⟨rfl,rfl⟩:=hs;exact ⟨rfl,fun _ _=>by simp_all⟩)
theorem xdO {base:Nat} {en:Env} {h h':Heap} {op:AOp} {v:V} (hi:op.reads=true) (hs:step base en h op=some (v,h')):h'=h∧∀ b2,step b2 en h op=some (v,h):=by
 by_cases hin:op.inert=true
 ·exact ⟨(x4F hin hs).1,fun b2=>(x4F hin hs).2 b2 h⟩
 cases op<;>simp [AOp.reads,AOp.inert] at hi hin
 case load n a =>
  simp only [step] at hs ⊢
  simp only [Option.map_eq_some_iff,Prod.mk.injEq] at hs;obtain ⟨a,ha,rfl,rfl⟩:=hs;exact ⟨rfl,fun _=>by rw [ha];rfl⟩
 case strOf x =>
  simp only [step] at hs ⊢
  simp only [Option.bind_eq_some_iff] at hs;obtain ⟨a,ha,hs⟩:=hs;simp only [ha,Option.bind_some]
  simp only [Option.map_eq_some_iff,Prod.mk.injEq] at hs;obtain ⟨a,ha,rfl,rfl⟩:=hs;exact ⟨rfl,fun _=>by rw [ha];rfl⟩
 case indexS sz x i =>
  simp only [step] at hs ⊢
  simp only [Option.bind_eq_some_iff] at hs;obtain ⟨a,ha,hs⟩:=hs;simp only [ha,Option.bind_some]
  simp only [Option.map_eq_some_iff,Prod.mk.injEq] at hs;obtain ⟨a,ha,rfl,rfl⟩:=hs;exact ⟨rfl,fun _=>by rw [ha];rfl⟩
 case uncast x =>
  simp only [step,Option.map_eq_some_iff,Prod.mk.injEq] at hs ⊢;obtain ⟨a,ha,rfl,rfl⟩:=hs;exact ⟨rfl,fun _=>⟨_,ha,rfl,trivial⟩⟩
 case cast u s x =>
  simp only [step,Option.map_eq_some_iff,Prod.mk.injEq] at hs ⊢;obtain ⟨a,ha,rfl,rfl⟩:=hs;exact ⟨rfl,fun _=>⟨_,ha,rfl,trivial⟩⟩
 case eqPtr neg x y =>
  simp only [step,Option.map_eq_some_iff,Prod.mk.injEq] at hs ⊢;obtain ⟨a,ha,rfl,rfl⟩:=hs;exact ⟨rfl,fun _=>⟨_,ha,rfl,trivial⟩⟩
 case sliceData x =>
  simp only [step,Option.map_eq_some_iff,Prod.mk.injEq] at hs ⊢;obtain ⟨a,ha,rfl,rfl⟩:=hs;exact ⟨rfl,fun _=>⟨_,ha,rfl,trivial⟩⟩
 case lookup kd z ok m k =>
  simp only [step,Option.map_eq_some_iff,Prod.mk.injEq] at hs ⊢;obtain ⟨a,ha,rfl,rfl⟩:=hs;exact ⟨rfl,fun _=>⟨_,ha,rfl,trivial⟩⟩
 case lenM m =>
  simp only [step,Option.map_eq_some_iff,Prod.mk.injEq] at hs ⊢;obtain ⟨a,ha,rfl,rfl⟩:=hs;exact ⟨rfl,fun _=>⟨_,ha,rfl,trivial⟩⟩
 case sliceArr n sz x lo hi =>
  have he:h'=h:=by
   simp only [step] at hs
   split at hs
   ·split at hs
    ·simp only [Option.some.injEq,Prod.mk.injEq] at hs;exact hs.2.symm
    ·simp at hs
   ·split at hs
    ·split at hs
     ·simp only [Option.some.injEq,Prod.mk.injEq] at hs;exact hs.2.symm
     ·simp at hs
    ·simp at hs
   ·simp at hs
  subst he
  exact ⟨rfl,fun _=>by simpa only [step] using hs⟩
 case slice sz x lo hi' mx =>
  cases mx with
  | some m=>simp at hi
  | none =>
   have key:∀ {l:Nat} {e:Option Nat} {h':Heap},zg h sz (x.get en) l e none=some (v,h')→h'=h:=by
    intro l e h' hs
    unfold zg at hs
    split at hs
    ·split at hs
     ·simp only [Option.some.injEq,Prod.mk.injEq] at hs;exact hs.2.symm
     ·simp at hs
    ·split at hs
     ·split at hs
      ·split at hs
       ·simp only [Option.some.injEq,Prod.mk.injEq] at hs;exact hs.2.symm
       ·simp at hs
      ·simp at hs
     ·simp only [Option.map_eq_some_iff,Prod.mk.injEq] at hs
      obtain ⟨_,_,_,hs⟩:=hs
      exact hs.symm
    ·split at hs
     ·simp only [Option.some.injEq,Prod.mk.injEq] at hs;exact hs.2.symm
     ·simp at hs
    ·simp at hs
   have he:h'=h:=by
    simp only [step,Option.bind_eq_some_iff] at hs
    obtain ⟨l,_,hs⟩:=hs
    cases hi' with
    | none=>exact key hs
    | some e =>
     simp only [Option.bind_eq_some_iff] at hs
     obtain ⟨_,_,hs⟩:=hs
     exact key hs
   subst he
   exact ⟨rfl,fun b2=>by simpa only [step] using hs⟩
def foot (en:Env) (op:AOp) (b:Nat):Prop:=∃ x∈op.opds,x1F (x.get en)=some b
theorem x4D {h h':Heap} {b e:Nat} {r} (hk:∀ o,h[b]?=some o→h'[b]?=some o) (hr:rowAt h b e=some r):rowAt h' b e=some r:=by
 unfold rowAt at hr ⊢
 cases hb:h[b]? with
 | none=>rw [hb] at hr;simp at hr
 | some o=>rw [hk o hb];rw [hb] at hr;exact hr
theorem x6w {h h':Heap} {b:Nat} {r} (hk:∀ o,h[b]?=some o→h'[b]?=some o) (hr:xan h b=some r):xan h' b=some r:=by
 unfold xan at hr ⊢
 cases hb:h[b]? with
 | none=>rw [hb] at hr;simp at hr
 | some o=>rw [hk o hb];rw [hb] at hr;exact hr
theorem xet {h h':Heap} {sz:Nat} {x:V} {r} (hk:∀ b o,x1F x=some b→h[b]?=some o→h'[b]?=some o) (hr:x5u sz h x=some r):x5u sz h' x=some r:=by
 unfold x5u at hr ⊢
 split at hr
 ·exact hr
 ·rename_i b e off len
  cases hra:rowAt h b e with
  | none=>rw [hra] at hr;simp at hr
  | some p=>rw [x4D (fun o=>hk b o rfl) hra];rw [hra] at hr;exact hr
 ·exact hr
 ·simp at hr
theorem xdV {h h':Heap} {n:Option Nat} {x:V} {r} (hk:∀ b o,x1F x=some b→h[b]?=some o→h'[b]?=some o) (hr:zl h n x=some r):zl h' n x=some r:=by
 unfold zl at hr ⊢
 split at hr
 ·rename_i b off
  cases hb:h[b]? with
  | none=>rw [hb] at hr;simp at hr
  | some o=>simp only [hk b o rfl hb];rw [hb] at hr;exact hr
 ·rename_i b e i off
  cases hra:rowAt h b e with
  | none=>rw [hra] at hr;simp at hr
  | some p=>simp only [x4D (fun o=>hk b o rfl) hra];rw [hra] at hr;exact hr
 ·exact hr
 ·simp at hr
theorem xc5 {h h':Heap} {s k:Nat} {x:V} {r} (hk:∀ b o,x1F x=some b→h[b]?=some o→h'[b]?=some o) (hr:zi h s k x=some r):zi h' s k x=some r:=by
 unfold zi at hr ⊢
 split at hr
 ·exact hr
 ·rename_i b e off len
  cases hra:rowAt h b e with
  | none=>rw [hra] at hr;simp at hr
  | some p=>simp only [x4D (fun o=>hk b o rfl) hra];rw [hra] at hr;exact hr
 ·simp at hr
theorem x8q {h h':Heap} {sz lo:Nat} {hi:Option Nat} {x:V} {r} (hk:∀ b o,x1F x=some b→h[b]?=some o→h'[b]?=some o) (hr:zg h sz x lo hi none=some (r,h)):zg h' sz x lo hi none=some (r,h'):=by
 unfold zg at hr ⊢
 split at hr
 ·split at hr
  ·rename_i hc
   rw [if_pos hc]
   simp only [Option.some.injEq,Prod.mk.injEq] at hr ⊢
   exact ⟨hr.1,trivial⟩
  ·simp at hr
 ·rename_i b ep off len
  split at hr
  ·rename_i hc
   rw [if_pos hc]
   cases hb:h[b]? with
   | none=>rw [hb] at hr;simp at hr
   | some o =>
    rw [hk b o rfl hb]
    rw [hb] at hr
    cases o with
    | row t z e' rs =>
     simp only at hr ⊢
     split at hr
     ·rename_i hz
      rw [if_pos hz]
      simp only [Option.some.injEq,Prod.mk.injEq] at hr ⊢
      exact ⟨hr.1,trivial⟩
     ·simp at hr
    | _=>simp at hr
  ·rename_i hc
   rw [if_neg hc]
   simp only [Option.map_eq_some_iff,Prod.mk.injEq] at hr ⊢
   obtain ⟨v,hv,hr,_⟩:=hr
   refine ⟨v,?_,hr,trivial⟩
   unfold farV at hv ⊢
   cases hra:rowAt h b ep with
   | none=>rw [hra] at hv;simp at hv
   | some p=>rw [x4D (fun o=>hk b o rfl) hra];rw [hra] at hv;exact hv
 ·split at hr
  ·rename_i hc
   rw [if_pos hc]
   simp only [Option.some.injEq,Prod.mk.injEq] at hr ⊢
   exact ⟨hr.1,trivial⟩
  ·simp at hr
 ·simp at hr
theorem xaB {h h':Heap} {x y:V} {r} (hx:∀ b o,x1F x=some b→h[b]?=some o→h'[b]?=some o) (hy:∀ b o,x1F y=some b→h[b]?=some o→h'[b]?=some o) (hr:x7w h x y=some r):x7w h' x y=some r:=by
 unfold x7w at hr ⊢
 split at hr
 ·exact hr
 ·exact hr
 ·exact hr
 ·rename_i b o c p
  simp only [Option.bind_eq_some_iff,Option.map_eq_some_iff] at hr ⊢
  obtain ⟨u,h1,v,h2,h3⟩:=hr
  exact ⟨u,x6w (fun o=>hx b o rfl) h1,v,x6w (fun o=>hy c o rfl) h2,h3⟩
 ·simp at hr
theorem xfd {base:Nat} {en:Env} {h h':Heap} {op:AOp} {v:V} (hi:op.reads=true) (hk:∀ b o,foot en op b→h[b]?=some o→h'[b]?=some o) (hs:step base en h op=some (v,h)) :
  step base en h' op=some (v,h'):=by
 by_cases hin:op.inert=true
 ·exact (x4F hin hs).2 base h'
 cases op<;>simp [AOp.reads,AOp.inert] at hi hin
 case load n a =>
  simp only [step,Option.map_eq_some_iff,Prod.mk.injEq] at hs ⊢
  obtain ⟨r,h1,h2,_⟩:=hs
  exact ⟨r,xdV (fun b o e=>hk b o ⟨a,by simp [AOp.opds],e⟩) h1,h2,trivial⟩
 case strOf x =>
  simp only [step,Option.bind_eq_some_iff,Option.map_eq_some_iff,Prod.mk.injEq] at hs ⊢
  obtain ⟨r,h1,l,h2,h3,_⟩:=hs
  exact ⟨r,xet (fun b o e=>hk b o ⟨x,by simp [AOp.opds],e⟩) h1,l,h2,h3,trivial⟩
 case indexS sz x i =>
  simp only [step,Option.bind_eq_some_iff,Option.map_eq_some_iff,Prod.mk.injEq] at hs ⊢
  obtain ⟨k,h0,r,h1,h2,_⟩:=hs
  exact ⟨k,h0,r,xc5 (fun b o e=>hk b o ⟨x,by simp [AOp.opds],e⟩) h1,h2,trivial⟩
 case uncast x =>
  simp only [step,Option.map_eq_some_iff,Prod.mk.injEq] at hs ⊢
  obtain ⟨r,h1,h2,_⟩:=hs
  refine ⟨r,?_,h2,trivial⟩
  have hk':∀ b o,x1F (x.get en)=some b→h[b]?=some o→h'[b]?=some o:=fun b o e=>hk b o ⟨x,by simp [AOp.opds],e⟩
  clear h2
  generalize x.get en=y at h1 hk'
  unfold x9R at h1 ⊢
  split at h1
  ·exact h1
  ·rename_i b off
   simp only [Option.bind_eq_some_iff] at h1 ⊢
   obtain ⟨p,h2,h3⟩:=h1
   exact ⟨p,x6w (fun o=>hk' b o rfl) h2,h3⟩
  ·simp at h1
 case cast u s x =>
  simp only [step,Option.map_eq_some_iff,Prod.mk.injEq] at hs ⊢
  obtain ⟨r,h1,h2,_⟩:=hs
  refine ⟨r,?_,h2,trivial⟩
  have hk':∀ b o,x1F (x.get en)=some b→h[b]?=some o→h'[b]?=some o:=fun b o e=>hk b o ⟨x,by simp [AOp.opds],e⟩
  clear h2
  generalize x.get en=y at h1 hk'
  unfold xii at h1 ⊢
  split at h1
  ·exact h1
  ·rename_i b
   simp only [Option.bind_eq_some_iff] at h1 ⊢
   obtain ⟨p,h2,h3⟩:=h1
   exact ⟨p,x6w (fun o=>hk' b o rfl) h2,h3⟩
  ·simp at h1
 case eqPtr neg x y =>
  simp only [step,Option.map_eq_some_iff,Prod.mk.injEq] at hs ⊢
  obtain ⟨r,h1,h2,_⟩:=hs
  exact ⟨r,xaB (fun b o e=>hk b o ⟨x,by simp [AOp.opds],e⟩) (fun b o e=>hk b o ⟨y,by simp [AOp.opds],e⟩) h1,h2,trivial⟩
 case sliceData x =>
  simp only [step,Option.map_eq_some_iff,Prod.mk.injEq] at hs ⊢
  obtain ⟨r,h1,h2,_⟩:=hs
  refine ⟨r,?_,h2,trivial⟩
  have hk':∀ b o,x1F (x.get en)=some b→h[b]?=some o→h'[b]?=some o:=fun b o e=>hk b o ⟨x,by simp [AOp.opds],e⟩
  clear h2
  generalize x.get en=y at h1 hk'
  unfold x6p at h1 ⊢
  split at h1
  ·exact h1
  ·rename_i b e off len
   cases hra:rowAt h b e with
   | none=>rw [hra] at h1;simp at h1
   | some p=>simp only [x4D (fun o=>hk' b o rfl) hra];rw [hra] at h1;exact h1
  ·simp at h1
 case lookup kd z ok m k =>
  simp only [step,Option.map_eq_some_iff,Prod.mk.injEq] at hs ⊢
  obtain ⟨r,h1,h2,_⟩:=hs
  refine ⟨r,?_,h2,trivial⟩
  have hk':∀ b o,x1F (m.get en)=some b→h[b]?=some o→h'[b]?=some o:=fun b o e=>hk b o ⟨m,by simp [AOp.opds],e⟩
  clear h2
  generalize m.get en=y at h1 hk'
  unfold xbP at h1 ⊢
  simp only [Option.bind_eq_some_iff] at h1 ⊢
  obtain ⟨key,hkey,h1⟩:=h1
  refine ⟨key,hkey,?_⟩
  split at h1
  ·exact h1
  ·rename_i b
   cases hb:h[b]? with
   | none=>rw [hb] at h1;simp at h1
   | some o=>simp only [hk' b o rfl hb];rw [hb] at h1;exact h1
  ·simp at h1
 case lenM m =>
  simp only [step,Option.map_eq_some_iff,Prod.mk.injEq] at hs ⊢
  obtain ⟨r,h1,h2,_⟩:=hs
  refine ⟨r,?_,h2,trivial⟩
  have hk':∀ b o,x1F (m.get en)=some b→h[b]?=some o→h'[b]?=some o:=fun b o e=>hk b o ⟨m,by simp [AOp.opds],e⟩
  clear h2
  generalize m.get en=y at h1 hk'
  unfold xhL at h1 ⊢
  split at h1
  ·exact h1
  ·rename_i b
   cases hb:h[b]? with
   | none=>rw [hb] at h1;simp at h1
   | some o=>simp only [hk' b o rfl hb];rw [hb] at h1;exact h1
  ·simp at h1
 case sliceArr n sz x lo hi =>
  have hk':∀ b o,x1F (x.get en)=some b→h[b]?=some o→h'[b]?=some o:=fun b o e=>hk b o ⟨x,by simp [AOp.opds],e⟩
  simp only [step] at hs ⊢
  generalize x.get en=y at hs hk'
  split at hs
  ·split at hs
   ·rename_i hc
    simp only [Option.some.injEq,Prod.mk.injEq] at hs
    obtain ⟨rfl,_⟩:=hs
    simp [*]
   ·simp at hs
  ·rename_i b ep l e e1 e2
   split at hs
   ·rename_i z rs hra
    split at hs
    ·rename_i hc
     simp only [Option.some.injEq,Prod.mk.injEq] at hs
     obtain ⟨rfl,_⟩:=hs
     simp only [x4D (fun o=>hk' b o rfl) hra,if_pos hc]
    ·simp at hs
   ·simp at hs
  ·simp at hs
 case slice sz x lo hi' mx =>
  cases mx with
  | some m=>simp at hi
  | none =>
   have hk':∀ b o,x1F (x.get en)=some b→h[b]?=some o→h'[b]?=some o:=fun b o e=>hk b o ⟨x,by simp [AOp.opds],e⟩
   simp only [step,Option.bind_eq_some_iff] at hs ⊢
   obtain ⟨l,h1,hs⟩:=hs
   refine ⟨l,h1,?_⟩
   cases hi' with
   | none=>exact x8q hk' hs
   | some e =>
    simp only [Option.bind_eq_some_iff] at hs ⊢
    obtain ⟨k,h2,hs⟩:=hs
    exact ⟨k,h2,x8q hk' hs⟩
section
variable {call:x3T} {base:Nat}
def x0M (call:x3T) (base:Nat) (o:AOper) (en:Env) (h:Heap):Option (V×Heap) :=
 match o.guard with
 | none=>x1x call base en h o
 | some (g,want)=>match gOk (en g) want with
  | some true=>x1x call base en h o
  | some false=>some (.tup [],h)
  | none=>none
theorem x5s {o:AOper} {en:Env} {h h':Heap} {v:V} (hs:x0M call base o en h=some (v,h')) :
  ((∀ h2,x0M call base o en h2=x1x call base en h2 o)∧x1x call base en h o=some (v,h'))∨((∀ h2,x0M call base o en h2=some (.tup [],h2))∧v=.tup []∧h'=h):=by
 rcases hg:o.guard with _ | ⟨g,want⟩
 ·have hall:∀ h2,x0M call base o en h2=x1x call base en h2 o:=fun h2=>by simp only [x0M,hg]
  exact .inl ⟨hall,by rw [← hall];exact hs⟩
 ·cases hen:gOk (en g) want with
  | none=>simp [x0M,hg,hen] at hs
  | some t =>
   cases t with
   | true =>
    have hall:∀ h2,x0M call base o en h2=x1x call base en h2 o:=fun h2=>by simp only [x0M,hg,hen]
    exact .inl ⟨hall,by rw [← hall];exact hs⟩
   | false =>
    have hall:∀ h2,x0M call base o en h2=some (.tup [],h2):=fun h2=>by simp only [x0M,hg,hen]
    rw [hall] at hs
    simp only [Option.some.injEq,Prod.mk.injEq] at hs
    exact .inr ⟨hall,hs.1.symm,hs.2.symm⟩
theorem x0i (o:AOper) (r:List AOper) (en:Env) (h:Heap):x1i call base (o::r) en h=(x0M call base o en h).bind fun p=>x1i call base r (en.put o.dst p.1) p.2:=by
 rcases hg:o.guard with _ | ⟨g,want⟩
 ·simp only [x0M,x1i,hg]
  cases x1x call base en h o<;>rfl
 ·simp only [x0M,x1i,hg]
  cases gOk (en g) want with
  | none=>rfl
  | some t =>
   cases t with
   | true=>simp only;cases x1x call base en h o<;>rfl
   | false=>rfl
theorem xbN {o:AOper} {en en':Env} (he:∀ t∈o.slots,en t=en' t):x5c en o=x5c en' o:=by
 have ho:∀ t∈x1M o.op.opds,en t=en' t:=fun t ht=>he t (by simp [AOper.slots,ht])
 have h1:∀ t∈o.off,en t=en' t:=fun t ht=>he t (by simp [AOper.slots,ht])
 have all_on:∀ {α:Type} (l:List α) (p q:α→Bool),(∀ a∈l,p a=q a)→l.all p=l.all q:=by
  intro α l p q hpq
  induction l with
  | nil=>rfl
  | cons a l ih=>rw [List.all_cons,List.all_cons,hpq a (by simp),ih fun b hb=>hpq b (by simp [hb])]
 unfold x5c
 refine all_on _ _ _ fun t ht=>?_
 rw [h1 t ht]
 cases x1F (en' t) with
 | none=>rfl
 | some b=>exact all_on _ _ _ fun x hx=>by rw [x6e ho hx]
theorem xeq {op:AOp} {en en':Env} {h:Heap} (ho:∀ t∈x1M op.opds,en t=en' t):evOp call base en h op=evOp call base en' h op:=by
 unfold evOp
 split
 ·rename_i f args
  have hg:∀ x∈(AOp.call f args).opds,x.get en=x.get en':=fun x hx=>x6e ho hx
  rw [hg f (by simp [AOp.opds]),x4G (l:=args) (fun t ht=>ho t (x5E (fun x hx=>List.mem_cons_of_mem _ hx) t ht))]
 ·rename_i f args ts
  have hg:∀ x∈(AOp.callK f args ts).opds,x.get en=x.get en':=fun x hx=>x6e ho hx
  rw [hg f (by simp [AOp.opds]),x4G (l:=args) (fun t ht=>ho t (x5E (fun x hx=>by simp [AOp.opds,hx]) t ht))]
  have hk:∀ h',xaS en h h' ts=xaS en' h h' ts:=by
   intro h'
   have all_on:∀ (l:List Nat) (p q:Nat→Bool),(∀ a∈l,p a=q a)→l.all p=l.all q:=by
    intro l p q hpq
    induction l with
    | nil=>rfl
    | cons a l ih=>rw [List.all_cons,List.all_cons,hpq a (by simp),ih fun b hb=>hpq b (by simp [hb])]
   unfold xaS
   refine all_on _ _ _ fun t ht=>?_
   rw [ho t (x33.2 (.inl (by simp [AOp.opds,ht])))]
  simp only [hk]
 ·exact xdB ho
theorem x4j {o:AOper} {en en':Env} {h:Heap} (he:∀ t∈o.slots,en t=en' t):x0M call base o en h=x0M call base o en' h:=by
 have hop:x1x call base en h o=x1x call base en' h o:=by
  unfold x1x
  rw [xbN he,xeq fun t ht=>he t (by simp [AOper.slots,ht])]
 unfold x0M
 split
 ·exact hop
 ·rename_i g want e
  rw [he g (by simp [AOper.slots,e]),hop]
theorem x3e {op:AOp} {en:Env} {h:Heap} (hn:(∀ f a,op≠.call f a)∧∀ f a t,op≠.callK f a t):evOp call base en h op=step base en h op:=by
 unfold evOp
 split
 ·rename_i f a
  exact absurd rfl (hn.1 f a)
 ·rename_i f a t
  exact absurd rfl (hn.2 f a t)
 ·rfl
theorem x1L {o:AOper} {en:Env} {h:Heap} {r} (hs:x1x call base en h o=some r):x5c en o=true∧evOp call base en h o.op=some r:=by
 unfold x1x at hs
 split at hs
 ·rename_i ho;exact ⟨ho,hs⟩
 ·simp at hs
theorem x3Z {o:AOper} {en:Env} {h:Heap} {r} (ho:x5c en o=true) (hs:evOp call base en h o.op=some r):x1x call base en h o=some r:=by
 unfold x1x
 rw [if_pos ho]
 exact hs
theorem x6d {op:AOp} (hi:op.inert=true):(∀ f a,op≠.call f a)∧∀ f a t,op≠.callK f a t:=⟨fun f a e=>by rw [e] at hi;simp [AOp.inert] at hi,fun f a t e=>by rw [e] at hi;simp [AOp.inert] at hi⟩
theorem x7N {op:AOp} (hi:op.reads=true):(∀ f a,op≠.call f a)∧∀ f a t,op≠.callK f a t:=⟨fun f a e=>by rw [e] at hi;simp [AOp.reads,AOp.inert] at hi,fun f a t e=>by rw [e] at hi;simp [AOp.reads,AOp.inert] at hi⟩
theorem x8P {o:AOper} {en:Env} {h h':Heap} {v:V} (hi:o.op.inert=true) (hs:x0M call base o en h=some (v,h')):h'=h∧∀ h2,x0M call base o en h2=some (v,h2):=by
 rcases x5s hs with ⟨hall,e⟩ | ⟨hall,rfl,rfl⟩
 ·obtain ⟨ho,e⟩:=x1L e
  rw [x3e (x6d hi)] at e
  refine ⟨(x4F hi e).1,fun h2=>?_⟩
  rw [hall]
  exact x3Z ho (by rw [x3e (x6d hi)];exact (x4F hi e).2 base h2)
 ·exact ⟨rfl,hall⟩
theorem x4W {o:AOper} {en:Env} {h h':Heap} {v:V} (hi:o.op.reads=true) (hs:x0M call base o en h=some (v,h')) :
  h'=h∧∀ h2,(∀ b o',foot en o.op b→x5c en o=true→h[b]?=some o'→h2[b]?=some o')→x0M call base o en h2=some (v,h2):=by
 rcases x5s hs with ⟨hall,e⟩ | ⟨hall,rfl,rfl⟩
 ·obtain ⟨ho,e⟩:=x1L e
  rw [x3e (x7N hi)] at e
  have h1:=(xdO hi e).1
  subst h1
  refine ⟨rfl,fun h2 hk=>?_⟩
  rw [hall]
  exact x3Z ho (by rw [x3e (x7N hi)];exact xfd hi (fun b o' hf=>hk b o' hf ho) e)
 ·exact ⟨rfl,fun h2 _=>hall h2⟩
theorem Env.put_other {en:Env} {d:Option Nat} {v:V} {t:Nat} (h:d≠some t):(en.put d v) t=en t:=by
 cases d with
 | none=>rfl
 | some d =>
  have:t≠d:=fun e=>h (by rw [e])
  simp [Env.put,Env.upd,this]
theorem Env.put_comm {en:Env} {a b:Option Nat} {v u:V} (h:∀ d,a=some d→b≠some d):(en.put a v).put b u=(en.put b u).put a v:=by
 cases a with
 | none=>rfl
 | some a =>
  cases b with
  | none=>rfl
  | some b =>
   have hne:a≠b:=fun e=>h a rfl (by rw [e])
   funext t
   simp only [Env.put,Env.upd]
   split<;>split<;>simp_all
theorem x2S {x:Option Nat} {l:List Nat} (h:memO x l=false):∀ t∈l,x≠some t:=by
 intro t ht e
 rw [e] at h
 simp [memO,ht] at h
def x1w (quiet:FuncId→Nat) (call:x3T):Prop :=
 (∀ k,quiet k≠0→∀ base args h v h',call base k args h=some (v,h')→∃ ext,h'=h++ext) ∧
 (∀ k,quiet k=2→∀ base args h v h',call base k args h=some (v,h')→h'=h∧∀ b2 h2,call b2 k args h2=some (v,h2))
theorem xhZ {h ext:Heap} {b:Nat} {o:Obj} (hb:h[b]?=some o):(h++ext)[b]?=some o:=by
 rw [List.getElem?_append_left (List.getElem?_eq_some_iff.1 hb).1]
 exact hb
theorem x6Q {qs:List Nat} {t:Nat} {en:Env} {args vs:List V} {k:FuncId} (h:zr ((Opd.qtmp qs t).get en) args=some (k,vs)):k∈qs:=by
 simp only [Opd.get] at h
 split at h
 ·split at h
  ·rename_i hc
   simp only [zr,Option.some.injEq,Prod.mk.injEq] at h
   rw [← h.1]
   simpa using hc
  ·simp [zr] at h
 ·simp [zr] at h
theorem xeh {quiet:FuncId→Nat} (hq:x1w quiet call) {op:AOp} {en:Env} {h h':Heap} {v:V} (hg:op.grows quiet=true) (hs:evOp call base en h op=some (v,h')):∃ ext,h'=h++ext:=by
 unfold AOp.grows at hg
 split at hg
 ·simp only [evOp,step,Option.some.injEq,Prod.mk.injEq] at hs
  exact ⟨_,hs.2.symm⟩
 ·simp only [evOp,step] at hs
  split at hs
  ·simp only [Option.some.injEq,Prod.mk.injEq] at hs
   exact ⟨_,hs.2.symm⟩
  ·simp at hs
 ·simp only [evOp,step,Option.bind_eq_some_iff] at hs
  obtain ⟨rs,_,hs⟩:=hs
  split at hs
  ·split at hs
   ·simp only [Option.some.injEq,Prod.mk.injEq] at hs
    exact ⟨_,hs.2.symm⟩
   ·simp at hs
  split at hs
  ·simp only [Option.some.injEq,Prod.mk.injEq] at hs
   exact ⟨[],by simp [hs.2]⟩
  ·split at hs
   ·simp only [Option.some.injEq,Prod.mk.injEq] at hs
    exact ⟨_,hs.2.symm⟩
   ·simp at hs
 ·simp only [evOp,step] at hs
  split at hs
  ·split at hs
   ·simp only [Option.some.injEq,Prod.mk.injEq] at hs
    exact ⟨_,hs.2.symm⟩
   ·simp at hs
  ·simp at hs
 ·simp only [evOp,step] at hs
  split at hs
  ·simp only [Option.some.injEq,Prod.mk.injEq] at hs
   exact ⟨_,hs.2.symm⟩
  ·simp at hs
 ·simp only [evOp,step] at hs
  split at hs
  ·simp only [Option.some.injEq,Prod.mk.injEq] at hs
   exact ⟨_,hs.2.symm⟩
  ·simp at hs
 ·simp only [evOp,step,Option.some.injEq,Prod.mk.injEq] at hs
  exact ⟨_,hs.2.symm⟩
 ·rename_i k args
  simp only [evOp,Opd.get,zr,List.nil_append,List.append_nil] at hs
  exact hq.1 k (by simpa using hg) _ _ _ _ _ hs
 ·rename_i qs t args
  simp only [evOp] at hs
  split at hs
  ·rename_i k vs ht
   exact hq.1 k (by simpa using List.all_eq_true.1 hg k (x6Q ht)) _ _ _ _ _ hs
  ·simp at hs
 ·simp at hg
theorem x8Q {quiet:FuncId→Nat} (hq:x1w quiet call) {o:AOper} {en:Env} {h h':Heap} {v:V} (hg:o.op.grows quiet=true) (hs:x0M call base o en h=some (v,h')):∃ ext,h'=h++ext:=by
 rcases x5s hs with ⟨_,e⟩ | ⟨_,_,rfl⟩
 ·exact xeh hq hg (x1L e).2
 ·exact ⟨[],by simp⟩
theorem xaw {n:Nat} {h h':Heap} {a x:V} (hs:x0y base h n a x=some h'):∀ b,x1F a≠some b→h'[b]?=h[b]?:=by
 intro b hb
 unfold x0y at hs
 split at hs
 ·split at hs
  ·rename_i c off
   have hne:c≠b:=fun e=>hb (by rw [e];rfl)
   split at hs
   ·split at hs
    ·injection hs with hs
     rw [← hs,List.getElem?_set_ne hne]
    ·simp at hs
   ·simp at hs
  ·rename_i c e i off
   have hne:c≠b:=fun e=>hb (by rw [e];rfl)
   split at hs
   ·split at hs
    ·split at hs
     ·split at hs
      ·injection hs with hs
       rw [← hs,List.getElem?_set_ne hne]
      ·split at hs
       ·injection hs with hs
        rw [← hs,List.getElem?_set_ne hne]
       ·simp at hs
     ·simp at hs
    ·simp at hs
   ·simp at hs
  ·simp at hs
 ·simp at hs
theorem xcd {x y:AOper} {en:Env} {h h':Heap} {u:V} (hc:x.clear y=true) (hs:x0M call base y en h=some (u,h')) :
  ∀ b o',foot en x.op b→x5c en x=true→h[b]?=some o'→h'[b]?=some o':=by
 intro b o' hf hoff hb
 rcases x5s hs with ⟨_,e⟩ | ⟨_,_,rfl⟩
 ·have e:=(x1L e).2
  unfold AOper.clear at hc
  split at hc
  ·rename_i n t z eop
   rw [eop] at e
   simp only [evOp,step,Option.map_eq_some_iff,Prod.mk.injEq,Opd.get] at e
   obtain ⟨h2,e1,_,rfl⟩:=e
   rw [xaw e1 b]
   ·exact hb
   ·intro eb
    obtain ⟨z,hz,ez⟩:=hf
    have:=List.all_eq_true.1 hoff t (by simpa using hc)
    rw [eb] at this
    simp only [List.all_eq_true] at this
    have:=this z hz
    simp [ez] at this
  ·simp at hc
 ·exact hb
theorem x4q {quiet:FuncId→Nat} (hq:x1w quiet call) {o:AOper} {en:Env} {h h':Heap} {v:V} (hi:o.op.inertQ quiet=true) (hs:x0M call base o en h=some (v,h')):h'=h∧∀ h2,x0M call base o en h2=some (v,h2):=by
 by_cases hin:o.op.inert=true
 ·exact x8P hin hs
 rcases x5s hs with ⟨hall,e⟩ | ⟨hall,rfl,rfl⟩
 ·obtain ⟨ho,e⟩:=x1L e
  unfold AOp.inertQ at hi
  split at hi
  ·rename_i k args eop
   rw [eop] at e
   simp only [evOp,Opd.get,zr,List.nil_append,List.append_nil] at e
   obtain ⟨q1,q2⟩:=hq.2 k (by simpa using hi) _ _ _ _ _ e
   refine ⟨q1,fun h2=>?_⟩
   rw [hall]
   refine x3Z ho ?_
   rw [eop]
   simp only [evOp,Opd.get,zr,List.nil_append,List.append_nil]
   exact q2 base h2
  ·rename_i qs t args eop
   rw [eop] at e
   simp only [evOp] at e
   split at e
   ·rename_i k vs ht
    obtain ⟨q1,q2⟩:=hq.2 k (by simpa using List.all_eq_true.1 hi k (x6Q ht)) _ _ _ _ _ e
    refine ⟨q1,fun h2=>?_⟩
    rw [hall]
    refine x3Z ho ?_
    rw [eop]
    simp only [evOp,ht]
    exact q2 base h2
   ·simp at e
  ·exact absurd hi hin
 ·exact ⟨rfl,hall⟩
theorem swap {quiet:FuncId→Nat} (hq:x1w quiet call) {x y:AOper} (hc:x2R quiet x y=true) {en:Env} {h:Heap} {r:List AOper} {z:Env×Heap} (hs:x1i call base (x::y::r) en h=some z):x1i call base (y::x::r) en h=some z:=by
 simp only [x2R,Bool.and_eq_true,Bool.not_eq_true',Bool.or_eq_true] at hc
 obtain ⟨⟨⟨hxy,hyx⟩,hd⟩,hm⟩:=hc
 have hd':∀ d,x.dst=some d→y.dst≠some d:=by
  intro d e1 e2
  rw [e1,e2] at hd
  simp at hd
 simp only [x0i,Option.bind_eq_some_iff] at hs ⊢
 obtain ⟨⟨v,h1⟩,e1,⟨u,h2⟩,e2,e3⟩:=hs
 simp only at e1 e2 e3
 have cx:∀ (u:V) (h:Heap),x0M call base x (en.put y.dst u) h=x0M call base x en h:=fun u h=>x4j fun t ht=>Env.put_other (x2S hyx t ht)
 rw [x4j (o:=y) (en':=en) fun t ht=>Env.put_other (x2S hxy t ht)] at e2
 rw [Env.put_comm hd'] at e3
 rcases hm with (hm | hm) | ⟨hmx,hmy⟩
 ·obtain ⟨rfl,hall⟩:=x4q hq hm e1
  exact ⟨(u,h2),e2,(v,h2),by rw [cx];exact hall h2,e3⟩
 ·obtain ⟨rfl,hall⟩:=x4q hq hm e2
  exact ⟨(u,h),hall h,(v,h2),by rw [cx];exact e1,e3⟩
 ·obtain ⟨rfl,hall⟩:=x4W hmx e1
  rcases hmy with (hmy | hmy) | hmy
  ·obtain ⟨rfl,_⟩:=x4W hmy e2
   exact ⟨(u,h2),e2,(v,h2),by rw [cx];exact e1,e3⟩
  ·obtain ⟨ext,rfl⟩:=x8Q hq hmy e2
   exact ⟨(u,_),e2,(v,_),by rw [cx];exact hall _ (fun b o' _ _ hb=>xhZ hb),e3⟩
  ·exact ⟨(u,h2),e2,(v,h2),by rw [cx];exact hall _ (xcd hmy e2),e3⟩
theorem x6h (p r:List AOper) (en:Env) (h:Heap):x1i call base (p++r) en h=(x1i call base p en h).bind fun z=>x1i call base r z.1 z.2:=by
 induction p generalizing en h with
 | nil=>rfl
 | cons o p ih =>
  rw [List.cons_append,x0i,x0i]
  cases x0M call base o en h with
  | none=>rfl
  | some z=>exact ih _ _
theorem xem {quiet:FuncId→Nat} (hq:x1w quiet call) {y:AOper} {r:List AOper}:∀ {p:List AOper} {en:Env} {h:Heap} {z:Env×Heap},(∀ x∈p,x2R quiet x y=true)→x1i call base (p++y::r) en h=some z→x1i call base (y::(p++r)) en h=some z
 | [],_,_,_,_,hs=>hs
 | x::p,en,h,z,hc,hs=>by
  refine swap hq (hc x (by simp)) ?_
  rw [List.cons_append,x0i,Option.bind_eq_some_iff] at hs
  obtain ⟨q,e1,e2⟩:=hs
  rw [x0i,Option.bind_eq_some_iff]
  exact ⟨q,e1,xem hq (fun x hx=>hc x (by simp [hx])) e2⟩
theorem xlK {op:AOp} {en:Env} {h h':Heap} {v:V} (hs:evOp call base en h op.frz=some (v,h')):evOp call base en h op=some (v,h'):=by
 cases op
 case load n a =>
  simp only [AOp.frz,evOp,step] at hs ⊢
  split at hs
  ·rename_i cs off e
   rw [e]
   simpa only [zl] using hs
  ·simp at hs
 case indexS sz x i =>
  simp only [AOp.frz,evOp,step,Option.bind_eq_some_iff] at hs ⊢
  obtain ⟨k,hk,hs⟩:=hs
  refine ⟨k,hk,?_⟩
  split at hs
  ·rename_i e2 z rs e
   rw [e]
   split at hs
   ·rename_i hz
    simp only [Option.map_eq_some_iff,Prod.mk.injEq] at hs
    obtain ⟨cs,h1,rfl,rfl⟩:=hs
    simp [zi,hz,h1]
   ·simp at hs
  ·simp at hs
 case sliceArr n sz x lo hi =>
  simp only [AOp.frz,evOp,step] at hs ⊢
  split at hs
  ·rename_i e1 e2 e3
   rw [e1,e2,e3]
   exact hs
  ·simp at hs
 all_goals exact hs
def x1Q (a b:AOper):Prop:=a.dst=b.dst∧a.guard=b.guard∧∀ (call:x3T) (base:Nat) (en:Env) (h:Heap) (r:V×Heap),x1x call base en h a=some r→x1x call base en h b=some r
theorem x1Q.refl (a:AOper):x1Q a a:=⟨rfl,rfl,fun _ _ _ _ _ h=>h⟩
theorem x7f {o:AOper} (h:o.off=[]) (en:Env):x5c en o=true:=by simp [x5c,h]
theorem x1Q.frz {a:AOper} (h:a.off=[]):x1Q a.frz a:=by
 refine ⟨rfl,rfl,fun call base en hh r hs=>?_⟩
 exact x3Z (x7f h en) (xlK (x1L hs).2)
theorem x1Q.keep {a:AOper} (av:List Nat) (h:a.off=[]):x1Q (a.keep av) a:=by
 unfold AOper.keep
 split
 ·refine ⟨rfl,rfl,fun call base en hh r hs=>?_⟩
  exact x3Z (x7f h en) (x1L hs).2
 ·exact x1Q.refl a
theorem x1Q.val {a b:AOper} (hst:x1Q a b) {en:Env} {h:Heap} {r:V×Heap} (hs:x0M call base a en h=some r):x0M call base b en h=some r:=by
 obtain ⟨_,hg,hev⟩:=hst
 rcases hga:a.guard with _ | ⟨g,want⟩
 ·have hgb:=hg▸hga
  simp only [x0M,hga] at hs
  simp only [x0M,hgb]
  exact hev _ _ _ _ _ hs
 ·have hgb:=hg▸hga
  simp only [x0M,hga] at hs
  simp only [x0M,hgb]
  cases hen:gOk (en g) want with
  | none=>rw [hen] at hs;simp at hs
  | some t =>
   rw [hen] at hs
   cases t with
   | true=>exact hev _ _ _ _ _ hs
   | false=>exact hs
end
end
section
def x9N (c d:x3T):Prop:=∀ b f a h r,c b f a h=some r→d b f a h=some r
theorem x8S {c d:x3T} (hc:x9N c d) {base:Nat} {en:Env} {h:Heap} {o:AOper} {r:V×Heap} (hs:x1x c base en h o=some r):x1x d base en h o=some r:=by
 obtain ⟨ho,hs⟩:=x1L hs
 refine x3Z ho ?_
 unfold evOp at hs ⊢
 split at hs
 ·split at hs
  ·exact hc _ _ _ _ _ hs
  ·simp at hs
 ·split at hs
  ·split at hs
   ·rename_i v h' e1
    rw [hc _ _ _ _ _ e1]
    exact hs
   ·simp at hs
  ·simp at hs
 ·exact hs
theorem xep {c d:x3T} (hc:x9N c d) {base:Nat} {en:Env} {h:Heap} {o:AOper} {r:V×Heap} (hs:x0M c base o en h=some r):x0M d base o en h=some r:=by
 unfold x0M at hs ⊢
 split at hs
 ·exact x8S hc hs
 ·rename_i g want hg
  cases hen:gOk (en g) want with
  | none=>rw [hen] at hs;simp at hs
  | some t =>
   rw [hen] at hs
   cases t with
   | true=>exact x8S hc hs
   | false=>exact hs
theorem x2U {c d:x3T} (hc:x9N c d) {base:Nat}:∀ {ops:List AOper} {en:Env} {h:Heap} {r:Env×Heap},x1i c base ops en h=some r→x1i d base ops en h=some r
 | [],_,_,_,hs=>hs
 | o::ops,en,h,r,hs=>by
  rw [x0i,Option.bind_eq_some_iff] at hs ⊢
  obtain ⟨p,h1,h2⟩:=hs
  exact ⟨p,xep hc h1,x2U hc h2⟩
theorem x8L {f g:Env→Heap→Option (Ex×Env×Heap)} (hf:∀ en h r,f en h=some r→g en h=some r):∀ {n m:Nat} {en:Env} {h:Heap} {r},n≤m→iter f n en h=some r→iter g m en h=some r
 | 0,_,_,_,_,_,hs=>by simp [iter] at hs
 | n+1,0,_,_,_,hnm,_=>by omega
 | n+1,m+1,en,h,r,hnm,hs=>by
  unfold iter at hs ⊢
  split at hs
  ·rename_i en1 h1 e1
   rw [hf _ _ _ e1]
   exact x8L hf (by omega) hs
  ·rename_i hno
   rw [hf _ _ _ hs]
   split
   ·rename_i e2
    injection e2 with e2
    subst e2
    exact absurd hs (hno _ _)
   ·rfl
theorem x2C {c d:x3T} (hc:x9N c d) {base n m:Nat} (hnm:n≤m):∀ {ac:ACode} {en:Env} {h:Heap} {r},evC c base n ac en h=some r→evC d base m ac en h=some r
 | .skip,_,_,_,hs | .ret,_,_,_,hs | .exit _,_,_,_,hs | .fail,_,_,_,hs=>by simp [evC] at hs ⊢<;>exact hs
 | .seq a b,en,h,r,hs=>by
  simp only [evC] at hs ⊢
  split at hs
  ·rename_i en1 h1 e1
   rw [x2C hc hnm e1]
   exact x2C hc hnm hs
  ·rename_i hno
   rw [x2C hc hnm hs]
   split
   ·rename_i e2
    injection e2 with e2
    subst e2
    exact absurd hs (hno _ _)
   ·rfl
 | .cond x a b,en,h,r,hs=>by
  simp only [evC] at hs ⊢
  split at hs
  ·split at hs
   ·rename_i ht;rw [if_pos ht];exact x2C hc hnm hs
   ·rename_i ht;rw [if_neg ht];exact x2C hc hnm hs
  ·simp at hs
 | .region ops,en,h,r,hs=>by
  simp only [evC] at hs ⊢
  split at hs
  ·rename_i en1 h1 e1
   rw [x2U hc e1]
   exact hs
  ·simp at hs
 | .regionM ops rest ps,en,h,r,hs=>by
  simp only [evC] at hs ⊢
  split at hs
  ·rename_i s0 e0
   rw [x2U hc e0]
   split at hs
   ·rename_i ha
    simp only
    rw [if_pos]
    ·exact hs
    ·rw [List.all_eq_true] at ha ⊢
     intro l hl
     have:=ha l hl
     split at this
     ·rename_i s1 e1
      rw [x2U hc e1]
      exact this
     ·simp at this
   ·simp at hs
  ·simp at hs
 | .block id x,en,h,r,hs=>by
  simp only [evC] at hs ⊢
  split at hs
  ·rename_i i en1 h1 e1
   rw [x2C hc hnm e1]
   exact hs
  ·rename_i hno
   rw [x2C hc hnm hs]
   split
   ·rename_i e2
    injection e2 with e2
    subst e2
    exact absurd hs (hno _ _ _)
   ·rfl
 | .loop x,en,h,r,hs=>by
  simp only [evC] at hs ⊢
  exact x8L (fun _ _ _ e=>x2C hc hnm e) hnm hs
mutual
theorem x2I {h:Heap} {base:Nat}:∀ {n m:Nat} {v r:V},n≤m→x1Z h base n v=some r→x1Z h base m v=some r
 | 0,_,_,_,_,hs=>by simp [x1Z] at hs
 | n+1,0,_,_,hnm,_=>by omega
 | n+1,m+1,v,r,hnm,hs=>by
  cases v
  case hsl b e off len =>
   simp only [x1Z] at hs ⊢
   split at hs
   ·rename_i hb;rw [if_pos hb];exact hs
   ·rename_i hb
    rw [if_neg hb]
    split at hs
    ·split at hs
     ·rename_i hl
      rw [if_pos hl]
      split at hs
      ·rename_i hg;rw [if_pos hg];exact hs
      ·rename_i hg
       rw [if_neg hg]
       simp only [Option.bind_eq_some_iff] at hs ⊢
       obtain ⟨x,h1,h2⟩:=hs
       exact ⟨x,x6f (by omega) h1,h2⟩
     ·simp at hs
    ·simp at hs
  case agg cs =>
   simp only [x1Z,Option.map_eq_some_iff] at hs ⊢
   obtain ⟨x,h1,h2⟩:=hs
   exact ⟨x,x2L (by omega) h1,h2⟩
  case tup cs =>
   simp only [x1Z,Option.map_eq_some_iff] at hs ⊢
   obtain ⟨x,h1,h2⟩:=hs
   exact ⟨x,x2L (by omega) h1,h2⟩
  all_goals simpa only [x1Z] using hs
theorem x2L {h:Heap} {base:Nat}:∀ {n m:Nat} {v r:List V},n≤m→x1B h base n v=some r→x1B h base m v=some r
 | 0,_,_,_,_,hs=>by simp [x1B] at hs
 | n+1,0,_,_,hnm,_=>by omega
 | n+1,m+1,[],r,hnm,hs=>by simpa only [x1B] using hs
 | n+1,m+1,v::vs,r,hnm,hs=>by
  simp only [x1B,Option.bind_eq_some_iff,Option.map_eq_some_iff] at hs ⊢
  obtain ⟨x,h1,y,h2,h3⟩:=hs
  exact ⟨x,x2I (by omega) h1,y,x2L (by omega) h2,h3⟩
theorem x6f {h:Heap} {base:Nat}:∀ {n m:Nat} {v r:List (List V)},n≤m→x2G h base n v=some r→x2G h base m v=some r
 | 0,_,_,_,_,hs=>by simp [x2G] at hs
 | n+1,0,_,_,hnm,_=>by omega
 | n+1,m+1,[],r,hnm,hs=>by simpa only [x2G] using hs
 | n+1,m+1,v::vs,r,hnm,hs=>by
  simp only [x2G,Option.bind_eq_some_iff,Option.map_eq_some_iff] at hs ⊢
  obtain ⟨x,h1,y,h2,h3⟩:=hs
  exact ⟨x,x2L (by omega) h1,y,x6f (by omega) h2,h3⟩
end
theorem xce {c d:x3T} (hc:x9N c d) {n m base:Nat} (hnm:n≤m) {A:AFunc} {args:List V} {h:Heap} {r:V×Heap} (hs:x4y c n base A args h=some r):x4y d m base A args h=some r:=by
 unfold x4y at hs ⊢
 split at hs
 ·rename_i hl
  rw [if_pos hl]
  simp only at hs ⊢
  split at hs
  ·simp at hs
  ·rename_i ex en h1 hno e1
   rw [x2C hc hnm e1]
   simp only
   cases ex with
   | exit id=>exact absurd rfl (hno id)
   | normal =>
    simp only [Option.bind_eq_some_iff] at hs ⊢
    obtain ⟨x,h2,h3⟩:=hs
    refine ⟨x,h2,?_⟩
    split at h3
    ·rename_i hp
     simp only [if_pos hp,Option.map_eq_some_iff] at h3 ⊢
     obtain ⟨y,h4,h5⟩:=h3
     exact ⟨y,x2I hnm h4,h5⟩
    ·rename_i hp
     rw [if_neg hp]
     exact h3
   | ret =>
    simp only [Option.bind_eq_some_iff] at hs ⊢
    obtain ⟨x,h2,h3⟩:=hs
    refine ⟨x,h2,?_⟩
    split at h3
    ·rename_i hp
     simp only [if_pos hp,Option.map_eq_some_iff] at h3 ⊢
     obtain ⟨y,h4,h5⟩:=h3
     exact ⟨y,x2I hnm h4,h5⟩
    ·rename_i hp
     rw [if_neg hp]
     exact h3
  ·simp at hs
 ·simp at hs
section
variable {X:FuncId→Option (Nat→List V→Heap→Option (V×Heap))} {F:FuncId→Option AFunc}
theorem x14:∀ {n m:Nat},n≤m→x9N (x0j X F n) (x0j X F m)
 | 0,_,_=>fun _ _ _ _ _ hs=>by simp [x0j] at hs
 | n+1,0,hnm=>by omega
 | n+1,m+1,hnm=>fun b f a h r hs=>by
  unfold x0j at hs ⊢
  split at hs
  ·exact hs
  ·split at hs
   ·exact xce (x14 (by omega)) (by omega) hs
   ·simp at hs
end
structure Fns where
 X:FuncId→Option (Nat→List V→Heap→Option (V×Heap))
 F:FuncId→Option AFunc
section
variable (S:Fns) (base:Nat)
def WpF (f:FuncId) (args:List V) (h:Heap) (Q:V→Heap→Prop):Prop:=∃ n v h',x0j S.X S.F n base f args h=some (v,h')∧Q v h'
def WpO (ops:List AOper) (en:Env) (h:Heap) (Q:Env→Heap→Prop):Prop:=∃ n en' h',x1i (x0j S.X S.F n) base ops en h=some (en',h')∧Q en' h'
def WpC (c:ACode) (en:Env) (h:Heap) (Q:Ex→Env→Heap→Prop):Prop:=∃ n ex en' h',evC (x0j S.X S.F n) base n c en h=some (ex,en',h')∧Q ex en' h'
end
section
variable {S:Fns} {base:Nat}
theorem WpF.mono {f:FuncId} {args:List V} {h:Heap} {Q R:V→Heap→Prop} (hw:WpF S base f args h Q) (hq:∀ v h',Q v h'→R v h'):WpF S base f args h R :=
 let ⟨n,v,h',e,q⟩:=hw;⟨n,v,h',e,hq _ _ q⟩
theorem WpC.mono {c:ACode} {en:Env} {h:Heap} {Q R:Ex→Env→Heap→Prop} (hw:WpC S base c en h Q) (hq:∀ ex en h',Q ex en h'→R ex en h'):WpC S base c en h R :=
 let ⟨n,ex,en,h',e,q⟩:=hw;⟨n,ex,en,h',e,hq _ _ _ q⟩
theorem WpO.nil {en:Env} {h:Heap} {Q:Env→Heap→Prop} (hq:Q en h):WpO S base [] en h Q:=⟨0,en,h,rfl,hq⟩
theorem WpO.op {dst:Option Nat} {op:AOp} {r:List AOper} {en:Env} {h h1:Heap} {v:V} {Q:Env→Heap→Prop} (hs:step base en h op=some (v,h1)) (hn:WpO S base r (en.put dst v) h1 Q) :
  WpO S base (⟨dst,op,none,[]⟩::r) en h Q:=by
 obtain ⟨n,en',h',e,q⟩:=hn
 refine ⟨n,en',h',?_,q⟩
 rw [x0i]
 have:x0M (x0j S.X S.F n) base ⟨dst,op,none,[]⟩ en h=some (v,h1):=by
  simp only [x0M,x1x,x5c,List.all_nil,if_true,evOp]
  split
  ·simp [step] at hs
  ·simp [step] at hs
  ·exact hs
 rw [this]
 exact e
theorem WpO.call {dst:Option Nat} {f:Opd} {args:List Opd} {r:List AOper} {en:Env} {h:Heap} {k:FuncId} {vs:List V} {Q:Env→Heap→Prop} (ht:zr (f.get en) (zh en args)=some (k,vs))
  (hw:WpF S base k vs h fun v h1=>WpO S base r (en.put dst v) h1 Q):WpO S base (⟨dst,.call f args,none,[]⟩::r) en h Q:=by
 obtain ⟨n,v,h1,e1,m,en',h',e2,q⟩:=hw
 refine ⟨max n m,en',h',?_,q⟩
 rw [x0i]
 have:x0M (x0j S.X S.F (max n m)) base ⟨dst,.call f args,none,[]⟩ en h=some (v,h1):=by
  simp only [x0M,x1x,x5c,List.all_nil,if_true,evOp,ht]
  exact x14 (Nat.le_max_left n m) _ _ _ _ _ e1
 rw [this]
 exact x2U (x14 (Nat.le_max_right n m)) e2
theorem WpO.keep {dst:Option Nat} {op:AOp} {g:Option (Nat×Bool)} {off:List Nat} {r:List AOper} {en:Env} {h:Heap} {Q:Env→Heap→Prop} (ho:x5c en ⟨dst,op,g,off⟩=true) (hw:WpO S base (⟨dst,op,g,[]⟩::r) en h Q) :
  WpO S base (⟨dst,op,g,off⟩::r) en h Q:=by
 obtain ⟨n,en',h',e,q⟩:=hw
 refine ⟨n,en',h',?_,q⟩
 rw [x0i] at e ⊢
 have hev:x1x (x0j S.X S.F n) base en h ⟨dst,op,g,off⟩=x1x (x0j S.X S.F n) base en h ⟨dst,op,g,[]⟩:=by
  unfold x1x
  rw [ho]
  rfl
 have:x0M (x0j S.X S.F n) base ⟨dst,op,g,off⟩ en h=x0M (x0j S.X S.F n) base ⟨dst,op,g,[]⟩ en h:=by
  simp only [x0M,hev]
 rw [this]
 exact e
theorem WpC.skip {en:Env} {h:Heap} {Q:Ex→Env→Heap→Prop} (hq:Q .normal en h):WpC S base .skip en h Q:=⟨0,_,_,_,rfl,hq⟩
theorem WpC.ret {en:Env} {h:Heap} {Q:Ex→Env→Heap→Prop} (hq:Q .ret en h):WpC S base .ret en h Q:=⟨0,_,_,_,rfl,hq⟩
theorem WpC.exit {id:Nat} {en:Env} {h:Heap} {Q:Ex→Env→Heap→Prop} (hq:Q (.exit id) en h):WpC S base (.exit id) en h Q:=⟨0,_,_,_,rfl,hq⟩
theorem WpC.region {ops:List AOper} {en:Env} {h:Heap} {Q:Ex→Env→Heap→Prop} (hw:WpO S base ops en h (Q .normal)):WpC S base (.region ops) en h Q:=by
 obtain ⟨n,en',h',e,q⟩:=hw
 exact ⟨n,.normal,en',h',by simp only [evC,e],q⟩
theorem xir {rest:List (List AOper)} {en:Env} {h:Heap} {Q:Env→Heap→Prop} (hw:∀ l∈rest,WpO S base l en h Q):∃ n,∀ l∈rest,∃ en1 h1,x1i (x0j S.X S.F n) base l en h=some (en1,h1)∧Q en1 h1:=by
 induction rest with
 | nil=>exact ⟨0,fun l hl=>by cases hl⟩
 | cons x r ih =>
  obtain ⟨n,hn⟩:=ih fun l hl=>hw l (by simp [hl])
  obtain ⟨m,en1,h1,e1,q1⟩:=hw x (by simp)
  refine ⟨max n m,fun l hl=>?_⟩
  rcases List.mem_cons.1 hl with rfl | hl
  ·exact ⟨en1,h1,x2U (x14 (Nat.le_max_right n m)) e1,q1⟩
  ·obtain ⟨en2,h2,e2,q2⟩:=hn l hl
   exact ⟨en2,h2,x2U (x14 (Nat.le_max_left n m)) e2,q2⟩
theorem WpC.regionM {ops:List AOper} {rest:List (List AOper)} {ps:List (List Nat×List Nat)} {en:Env} {h:Heap} {Q:Ex→Env→Heap→Prop} (en0:Env) (h0:Heap) (hw:WpO S base ops en h fun en' h'=>en'=en0∧h'=h0)
  (hr:∀ l∈rest,WpO S base l en h fun en' h'=>∃ p∈ps,isoB p.1 p.2 (xbj ops) h (en',h') (en0,h0)=true) (hq:Q .normal en0 h0):WpC S base (.regionM ops rest ps) en h Q:=by
 obtain ⟨m,en1,h1,e1,rfl,rfl⟩:=hw
 obtain ⟨n,hn⟩:=xir hr
 refine ⟨max n m,.normal,en1,h1,?_,hq⟩
 simp only [evC]
 rw [x2U (x14 (Nat.le_max_right n m)) e1]
 simp only
 rw [if_pos]
 rw [List.all_eq_true]
 intro l hl
 obtain ⟨en2,h2,e2,p,hp,q2⟩:=hn l hl
 rw [x2U (x14 (Nat.le_max_left n m)) e2]
 exact List.any_eq_true.2 ⟨p,hp,q2⟩
def x58 (K:Env→Heap→Prop) (Q:Ex→Env→Heap→Prop):Ex→Env→Heap→Prop
 | .normal=>K
 | ex=>Q ex
theorem WpC.seq {a b:ACode} {en:Env} {h:Heap} {Q:Ex→Env→Heap→Prop} (hw:WpC S base a en h (x58 (fun en h=>WpC S base b en h Q) Q)):WpC S base (.seq a b) en h Q:=by
 obtain ⟨n,ex,en1,h1,e1,q⟩:=hw
 cases ex with
 | normal =>
  obtain ⟨m,ex,en',h',e2,q⟩:=q
  refine ⟨max n m,ex,en',h',?_,q⟩
  simp only [evC,x2C (x14 (Nat.le_max_left n m)) (Nat.le_max_left n m) e1]
  exact x2C (x14 (Nat.le_max_right n m)) (Nat.le_max_right n m) e2
 | exit id=>exact ⟨n,_,_,_,by simp only [evC,e1],q⟩
 | ret=>exact ⟨n,_,_,_,by simp only [evC,e1],q⟩
theorem WpC.cond {c:Opd} {a b:ACode} {en:Env} {h:Heap} {t:Bool} {Q:Ex→Env→Heap→Prop} (hc:c.get en=.bool t) (hw:if t then WpC S base a en h Q else WpC S base b en h Q):WpC S base (.cond c a b) en h Q:=by
 cases t with
 | true =>
  obtain ⟨n,ex,en',h',e,q⟩:=hw
  exact ⟨n,ex,en',h',by simp only [evC,hc,if_true];exact e,q⟩
 | false =>
  simp only [Bool.false_eq_true,if_false] at hw
  obtain ⟨n,ex,en',h',e,q⟩:=hw
  exact ⟨n,ex,en',h',by simp only [evC,hc,Bool.false_eq_true,if_false];exact e,q⟩
def x5w (id:Nat) (Q:Ex→Env→Heap→Prop):Ex→Env→Heap→Prop
 | .exit i=>if i=id then Q .normal else Q (.exit i)
 | ex=>Q ex
theorem WpC.block {id:Nat} {c:ACode} {en:Env} {h:Heap} {Q:Ex→Env→Heap→Prop} (hw:WpC S base c en h (x5w id Q)):WpC S base (.block id c) en h Q:=by
 obtain ⟨n,ex,en',h',e,q⟩:=hw
 cases ex with
 | normal=>exact ⟨n,_,_,_,by simp only [evC,e],q⟩
 | ret=>exact ⟨n,_,_,_,by simp only [evC,e],q⟩
 | exit i =>
  simp only [x5w] at q
  by_cases hi:i=id
  ·rw [if_pos hi] at q
   exact ⟨n,.normal,_,_,by simp only [evC,e,if_pos hi],q⟩
  ·rw [if_neg hi] at q
   exact ⟨n,.exit i,_,_,by simp only [evC,e,if_neg hi],q⟩
theorem WpC.loop {c:ACode} {en:Env} {h:Heap} {Q:Ex→Env→Heap→Prop} (hw:WpC S base c en h (x58 (fun en h=>WpC S base (.loop c) en h Q) Q)):WpC S base (.loop c) en h Q:=by
 obtain ⟨n,ex,en1,h1,e1,q⟩:=hw
 cases ex with
 | normal =>
  obtain ⟨m,ex,en',h',e2,q⟩:=q
  refine ⟨max n m+1,ex,en',h',?_,q⟩
  simp only [evC,iter] at e2 ⊢
  rw [x2C (x14 (Nat.le_succ_of_le (Nat.le_max_left n m))) (Nat.le_succ_of_le (Nat.le_max_left n m)) e1]
  simp only
  exact x8L (fun _ _ _ e=>x2C (x14 (Nat.le_succ_of_le (Nat.le_max_right n m))) (Nat.le_succ_of_le (Nat.le_max_right n m)) e) (Nat.le_max_right n m) e2
 | exit id=>exact ⟨n+1,_,_,_,by simp only [evC,iter];rw [x2C (x14 (Nat.le_succ n)) (Nat.le_succ n) e1],q⟩
 | ret=>exact ⟨n+1,_,_,_,by simp only [evC,iter];rw [x2C (x14 (Nat.le_succ n)) (Nat.le_succ n) e1],q⟩
theorem WpC.loopInv {c:ACode} {Q:Ex→Env→Heap→Prop} (I:Nat→Env→Heap→Prop) (hstep:∀ k en h,I k en h→WpC S base c en h (x58 (fun en' h'=>∃ j,j<k∧I j en' h') Q)) :
  ∀ k en h,I k en h→WpC S base (.loop c) en h Q:=by
 intro k
 induction k using Nat.strongRecOn with
 | _ k ih =>
  intro en h hi
  refine WpC.loop ((hstep k en h hi).mono fun ex en' h' q=>?_)
  cases ex with
  | normal=>obtain ⟨j,hj,hi'⟩:=q;exact ih j hj en' h' hi'
  | exit id=>exact q
  | ret=>exact q
theorem WpF.body {f:FuncId} {A:AFunc} {args:List V} {h:Heap} {Q:V→Heap→Prop} (hX:S.X f=none) (hF:S.F f=some A) (hp:A.pure=false) (hl:args.length=A.nparams)
  (hw:WpC S base A.body (fun t=>args.getD t .undef) h fun ex en h'=>(∀ i,ex≠.exit i)∧∃ rs,ze en h' A.results=some rs∧Q (za rs) h'):WpF S base f args h Q:=by
 obtain ⟨n,ex,en,h',e,hno,rs,hr,q⟩:=hw
 refine ⟨n+1,za rs,h',?_,q⟩
 simp only [x0j,hX,hF,x4y,hp,Bool.false_eq_true,if_false,if_pos hl,e]
 cases ex with
 | exit i=>exact absurd rfl (hno i)
 | normal=>simp [hr]
 | ret=>simp [hr]
theorem WpF.bodyPure {f:FuncId} {A:AFunc} {args:List V} {h:Heap} {Q:V→Heap→Prop} (hX:S.X f=none) (hF:S.F f=some A) (hp:A.pure=true) (hl:args.length=A.nparams)
  (hw:WpC S h.length A.body (fun t=>args.getD t .undef) h fun ex en h'=>(∀ i,ex≠.exit i)∧∃ rs,ze en h' A.results=some rs∧∃ n v,x1Z h' h.length n (za rs)=some v∧Q v (h'.take h.length)):WpF S base f args h Q:=by
 obtain ⟨n,ex,en,h',e,hno,rs,hr,m,v,hv,q⟩:=hw
 refine ⟨max n m+1,v,h'.take h.length,?_,q⟩
 simp only [x0j,hX,hF,x4y,hp,if_true,if_pos hl,x2C (x14 (Nat.le_max_left n m)) (Nat.le_max_left n m) e]
 cases ex with
 | exit i=>exact absurd rfl (hno i)
 | normal=>simp [hr,x2I (Nat.le_max_right n m) hv]
 | ret=>simp [hr,x2I (Nat.le_max_right n m) hv]
end
end
section
def okQ (x:Option (V×Heap)) (Q:V→Heap→Prop):Prop :=
 match x with
 | some (v,h)=>Q v h
 | none=>False
def xil (v:V) (Q:Bool→Prop):Prop :=
 match v with
 | .sc (.bool t)=>Q t
 | _=>False
@[simp] theorem okQ_some (v:V) (h:Heap) (Q:V→Heap→Prop):okQ (some (v,h)) Q=Q v h:=rfl
@[simp] theorem okQ_none (Q:V→Heap→Prop):okQ none Q=False:=rfl
@[simp] theorem boolQ_bool (t:Bool) (Q:Bool→Prop):xil (.sc (.bool t)) Q=Q t:=rfl
section
variable {S:Fns} {base:Nat}
theorem xkM {en:Env} {h:Heap} {Q:Env→Heap→Prop}:WpO S base [] en h Q↔Q en h:=by
 constructor
 ·rintro ⟨n,en',h',e,q⟩
  simp only [x1i,Option.some.injEq,Prod.mk.injEq] at e
  obtain ⟨rfl,rfl⟩:=e
  exact q
 ·exact WpO.nil
theorem xn3 {dst:Option Nat} {op:AOp} {r:List AOper} {en:Env} {h:Heap} {Q:Env→Heap→Prop} (hn:(∀ f a,op≠.call f a)∧∀ f a t,op≠.callK f a t) :
  WpO S base (⟨dst,op,none,[]⟩::r) en h Q↔okQ (step base en h op) fun v h1=>WpO S base r (en.put dst v) h1 Q:=by
 constructor
 ·rintro ⟨n,en',h',e,q⟩
  rw [x0i] at e
  have hv:x0M (x0j S.X S.F n) base ⟨dst,op,none,[]⟩ en h=step base en h op:=by
   simp only [x0M,x1x,x5c,List.all_nil,if_true,x3e hn]
  rw [hv,Option.bind_eq_some_iff] at e
  obtain ⟨⟨v,h1⟩,e1,e2⟩:=e
  rw [e1]
  exact ⟨n,en',h',e2,q⟩
 ·intro hq
  cases hs:step base en h op with
  | none=>rw [hs] at hq;exact hq.elim
  | some p =>
   obtain ⟨v,h1⟩:=p
   rw [hs] at hq
   exact WpO.op hs hq
theorem xgS {dst:Option Nat} {op:AOp} {g:Nat} {want:Bool} {r:List AOper} {en:Env} {h:Heap} {Q:Env→Heap→Prop} :
  WpO S base (⟨dst,op,some (g,want),[]⟩::r) en h Q↔(match gOk (en g) want with
   | some true=>WpO S base (⟨dst,op,none,[]⟩::r) en h Q
   | some false=>WpO S base r (en.put dst (.tup [])) h Q
   | none=>False):=by
 constructor
 ·rintro ⟨n,en',h',e,q⟩
  rw [x0i,Option.bind_eq_some_iff] at e
  obtain ⟨p,e1,e2⟩:=e
  cases hen:gOk (en g) want with
  | none=>simp [x0M,hen] at e1
  | some t =>
   simp only [x0M,hen] at e1
   cases t with
   | true =>
    refine ⟨n,en',h',?_,q⟩
    rw [x0i]
    have:x0M (x0j S.X S.F n) base ⟨dst,op,none,[]⟩ en h=some p:=e1
    rw [this]
    exact e2
   | false =>
    injection e1 with e1
    subst e1
    exact ⟨n,en',h',e2,q⟩
 ·intro hq
  cases hen:gOk (en g) want with
  | none=>rw [hen] at hq;exact hq.elim
  | some t =>
   rw [hen] at hq
   cases t with
   | true =>
    obtain ⟨n,en',h',e,q⟩:=hq
    refine ⟨n,en',h',?_,q⟩
    rw [x0i] at e ⊢
    have:x0M (x0j S.X S.F n) base ⟨dst,op,some (g,want),[]⟩ en h=x0M (x0j S.X S.F n) base ⟨dst,op,none,[]⟩ en h:=by
     simp only [x0M,hen]
     rfl
    rw [this]
    exact e
   | false =>
    obtain ⟨n,en',h',e,q⟩:=hq
    refine ⟨n,en',h',?_,q⟩
    rw [x0i]
    have:x0M (x0j S.X S.F n) base ⟨dst,op,some (g,want),[]⟩ en h=some (.tup [],h):=by
     simp only [x0M,hen]
    rw [this]
    exact e
def xkB (S:Fns) (base:Nat) (t:Option (FuncId×List V)) (h:Heap) (Q:V→Heap→Prop):Prop :=
 match t with
 | some (k,vs)=>WpF S base k vs h Q
 | none=>False
@[simp] theorem callQ_some (S:Fns) (base:Nat) (k:FuncId) (vs:List V) (h:Heap) (Q:V→Heap→Prop):xkB S base (some (k,vs)) h Q=WpF S base k vs h Q:=rfl
theorem xis {dst:Option Nat} {f:Opd} {args:List Opd} {r:List AOper} {en:Env} {h:Heap} {Q:Env→Heap→Prop} :
  WpO S base (⟨dst,.call f args,none,[]⟩::r) en h Q↔xkB S base (zr (f.get en) (zh en args)) h fun v h1=>WpO S base r (en.put dst v) h1 Q:=by
 constructor
 ·rintro ⟨n,en',h',e,q⟩
  rw [x0i,Option.bind_eq_some_iff] at e
  obtain ⟨⟨v,h1⟩,e1,e2⟩:=e
  have e1':=(x1L (o:=⟨dst,.call f args,none,[]⟩) (show x1x (x0j S.X S.F n) base en h ⟨dst,.call f args,none,[]⟩=some (v,h1) from e1)).2
  simp only [evOp] at e1'
  cases ht:zr (f.get en) (zh en args) with
  | none=>rw [ht] at e1';simp at e1'
  | some p =>
   obtain ⟨k,vs⟩:=p
   rw [ht] at e1'
   exact ⟨n,v,h1,e1',n,en',h',e2,q⟩
 ·intro hq
  cases ht:zr (f.get en) (zh en args) with
  | none=>rw [ht] at hq;exact hq.elim
  | some p =>
   obtain ⟨k,vs⟩:=p
   rw [ht] at hq
   exact WpO.call ht hq
theorem xiw {c:Opd} {a b:ACode} {en:Env} {h:Heap} {Q:Ex→Env→Heap→Prop} (hw:xil (c.get en) fun t=>if t then WpC S base a en h Q else WpC S base b en h Q):WpC S base (.cond c a b) en h Q:=by
 cases hen:c.get en with
 | sc x =>
  cases x with
  | bool t=>rw [hen] at hw;exact WpC.cond hen hw
  | _=>rw [hen] at hw;exact hw.elim
 | _=>rw [hen] at hw;exact hw.elim
end
end
section
open Go.RowKit (Below)
structure RowLoc where
 e:Nat
 sz:Nat
 blk:Nat
 cp:Nat
 vis:Nat
structure Tie where
 fz:Nat→Nat→Option Value
 n:Nat
 bx:Nat→Nat
 rw:Nat→Option RowLoc
 b0:Nat
 kp:Nat→Bool:=fun _=>false
mutual
def RepV (G:Tie):V→Value→Prop
 | .undef,_=>True
 | .sc v,r=>r=v∧v.oneCell'=true
 | .agg cs,r=>∃ rs:Array Value,r=.agg rs∧RepL G cs rs.toList
 | .tup cs,r=>∃ rs:Array Value,r=.tuple rs∧RepL G cs rs.toList
 | .slc ex sz rows,r=>∃ a cap,r=.slice a rows.length cap∧rows.length≤cap∧(ex.isFull=true→cap=rows.length)∧(rows.all fun l=>l.all x1h)=true ∧
   ∃ b o,(rows≠[]→a=some ⟨b,o,none⟩)∧(ex=.lit→rows≠[]→G.b0≤b)∧x0T G sz b o rows
 | .hsl b e off len,r=>b<G.n∧∃ a cap,r=.slice (some a) len cap∧∀ L,G.rw b=some L→e≤L.e∧(e=L.e→len≤cap∧(off+cap≤L.cp∧L.vis≤off+cap)∧(cap≠0→a=⟨L.blk,off*L.sz,none⟩))
 | .ptr b off,r=>b<G.n∧r=.pointer (some ⟨G.bx b,off,none⟩)
 | .rptr b e i off,r=>b<G.n∧∃ a,r=.pointer (some a)∧∀ L,G.rw b=some L→e≤L.e∧(e=L.e→a=⟨L.blk,i*L.sz+off,none⟩)
 | .eptr cs off,r=>∃ b o,r=.pointer (some ⟨b,o+off,none⟩)∧cs.all x1h=true∧RepF G b o cs
 | .fn f a c,r=>∃ ra rc:Array Value,r=.func f ra rc∧RepL G a ra.toList∧RepL G c rc.toList
 | .ifc t v,r=>∃ rv,r=.iface t rv∧RepV G v rv
 | .mp b,r=>b<G.n∧r=.map (some (G.bx b))
 | .opq,r=>r.oneCell'=true
def RepL (G:Tie):List V→List Value→Prop
 | [],rs=>rs=[]
 | c::cs,rs=>∃ r rest,rs=r::rest∧RepV G c r∧RepL G cs rest
def RepF (G:Tie) (b:Nat):Nat→List V→Prop
 | _,[]=>True
 | o,c::cs=>(∃ v,G.fz b o=some v∧RepV G c v)∧RepF G b (o+1) cs
def x0T (G:Tie) (sz b:Nat):Nat→List (List V)→Prop
 | _,[]=>True
 | o,cs::r=>cs.length=sz∧RepF G b o cs∧x0T G sz b (o+sz) r
end
structure Ext0 (G G':Tie):Prop where
 fz:∀ b o v,G.fz b o=some v→G'.fz b o=some v
 n:G.n≤G'.n
 bx:∀ b,b<G.n→G'.bx b=G.bx b
 rw:∀ b,b<G.n→∀ L',G'.rw b=some L'→∃ L,G.rw b=some L∧L.e≤L'.e∧(L.e=L'.e→L'=L)
 b0:G'.b0=G.b0
structure Ext (G G':Tie):Prop extends Ext0 G G' where
 kp:G'.kp=G.kp
theorem Ext.refl (G:Tie):Ext G G:=⟨⟨fun _ _ _ h=>h,Nat.le_refl _,fun _ _=>rfl,fun _ _ L h=>⟨L,h,Nat.le_refl _,fun _=>rfl⟩,rfl⟩,rfl⟩
theorem Ext0.trans {A B C:Tie} (h:Ext0 A B) (k:Ext0 B C):Ext0 A C where
 fz b o v hv:=k.fz _ _ _ (h.fz _ _ _ hv)
 n:=Nat.le_trans h.n k.n
 bx b hb:=(k.bx b (Nat.lt_of_lt_of_le hb h.n)).trans (h.bx b hb)
 rw b hb L' hL:=by
  obtain ⟨L1,h1,l1,e1⟩:=k.rw b (Nat.lt_of_lt_of_le hb h.n) L' hL
  obtain ⟨L2,h2,l2,e2⟩:=h.rw b hb L1 h1
  refine ⟨L2,h2,Nat.le_trans l2 l1,fun e=>?_⟩
  have hA:L1.e=L'.e:=by omega
  have hB:L2.e=L1.e:=by omega
  rw [e1 hA,e2 hB]
 b0:=k.b0.trans h.b0
theorem Ext.trans {A B C:Tie} (h:Ext A B) (k:Ext B C):Ext A C:=⟨h.toExt0.trans k.toExt0,k.kp.trans h.kp⟩
mutual
theorem RepV.ext0 {G G':Tie} (x:Ext0 G G'):∀ {v:V} {r:Value},RepV G v r→RepV G' v r
 | .undef,_,_=>by simp [RepV]
 | .sc v,r,h=>by simpa [RepV] using h
 | .agg cs,r,h=>by
  simp only [RepV] at h ⊢
  obtain ⟨rs,e,h⟩:=h
  exact ⟨rs,e,RepL.ext0 x h⟩
 | .tup cs,r,h=>by
  simp only [RepV] at h ⊢
  obtain ⟨rs,e,h⟩:=h
  exact ⟨rs,e,RepL.ext0 x h⟩
 | .slc ex sz rows,r,h=>by
  simp only [RepV] at h ⊢
  obtain ⟨a,cap,e,hl,he,hg,b,o,ha,hb,h⟩:=h
  exact ⟨a,cap,e,hl,he,hg,b,o,ha,by rw [x.b0];exact hb,x0T.ext0 x h⟩
 | .hsl b e off len,r,h=>by
  simp only [RepV] at h ⊢
  obtain ⟨hb,a,cap,hr,h⟩:=h
  refine ⟨Nat.lt_of_lt_of_le hb x.n,a,cap,hr,fun L' hL'=>?_⟩
  obtain ⟨L,hL,hle,heq⟩:=x.rw b hb L' hL'
  obtain ⟨h1,h2⟩:=h L hL
  refine ⟨Nat.le_trans h1 hle,fun he=>?_⟩
  have:L.e=L'.e:=by omega
  rw [heq this]
  exact h2 (by omega)
 | .ptr b off,r,h=>by
  simp only [RepV] at h ⊢
  exact ⟨Nat.lt_of_lt_of_le h.1 x.n,by rw [x.bx b h.1];exact h.2⟩
 | .rptr b e i off,r,h=>by
  simp only [RepV] at h ⊢
  obtain ⟨hb,a,hr,h⟩:=h
  refine ⟨Nat.lt_of_lt_of_le hb x.n,a,hr,fun L' hL'=>?_⟩
  obtain ⟨L,hL,hle,heq⟩:=x.rw b hb L' hL'
  obtain ⟨h1,h2⟩:=h L hL
  refine ⟨Nat.le_trans h1 hle,fun he=>?_⟩
  have:L.e=L'.e:=by omega
  rw [heq this]
  exact h2 (by omega)
 | .eptr cs off,r,h=>by
  simp only [RepV] at h ⊢
  obtain ⟨b,o,hr,hg,h⟩:=h
  exact ⟨b,o,hr,hg,RepF.ext0 x h⟩
 | .fn f a c,r,h=>by
  simp only [RepV] at h ⊢
  obtain ⟨ra,rc,hr,h1,h2⟩:=h
  exact ⟨ra,rc,hr,RepL.ext0 x h1,RepL.ext0 x h2⟩
 | .ifc t v,r,h=>by
  simp only [RepV] at h ⊢
  obtain ⟨rv,hr,h⟩:=h
  exact ⟨rv,hr,RepV.ext0 x h⟩
 | .mp b,r,h=>by
  simp only [RepV] at h ⊢
  exact ⟨Nat.lt_of_lt_of_le h.1 x.n,by rw [x.bx b h.1];exact h.2⟩
 | .opq,r,h=>by
  simp only [RepV] at h ⊢
  exact h
theorem RepL.ext0 {G G':Tie} (x:Ext0 G G'):∀ {v:List V} {r:List Value},RepL G v r→RepL G' v r
 | [],r,h=>by simpa [RepL] using h
 | c::cs,r,h=>by
  simp only [RepL] at h ⊢
  obtain ⟨a,rest,e,h1,h2⟩:=h
  exact ⟨a,rest,e,RepV.ext0 x h1,RepL.ext0 x h2⟩
theorem RepF.ext0 {G G':Tie} (x:Ext0 G G'):∀ {b o:Nat} {v:List V},RepF G b o v→RepF G' b o v
 | _,_,[],_=>by simp [RepF]
 | b,o,c::cs,h=>by
  simp only [RepF] at h ⊢
  obtain ⟨⟨v,h1,h2⟩,h3⟩:=h
  exact ⟨⟨v,x.fz _ _ _ h1,RepV.ext0 x h2⟩,RepF.ext0 x h3⟩
theorem x0T.ext0 {G G':Tie} (x:Ext0 G G'):∀ {sz b o:Nat} {v:List (List V)},x0T G sz b o v→x0T G' sz b o v
 | _,_,_,[],_=>by simp [x0T]
 | sz,b,o,c::cs,h=>by
  simp only [x0T] at h ⊢
  exact ⟨h.1,RepF.ext0 x h.2.1,x0T.ext0 x h.2.2⟩
end
theorem RepV.ext {G G':Tie} (x:Ext G G') {v:V} {r:Value} (h:RepV G v r):RepV G' v r:=h.ext0 x.toExt0
theorem RepL.ext {G G':Tie} (x:Ext G G') {v:List V} {r:List Value} (h:RepL G v r):RepL G' v r:=RepL.ext0 x.toExt0 h
theorem RepL.length {G:Tie}:∀ {cs:List V} {rs:List Value},RepL G cs rs→rs.length=cs.length
 | [],_,h=>by simp only [RepL] at h;simp [h]
 | _::cs,_,h=>by
  simp only [RepL] at h
  obtain ⟨a,rest,rfl,_,h2⟩:=h
  simp [RepL.length h2]
theorem RepL.get {G:Tie}:∀ {cs:List V} {rs:List Value},RepL G cs rs→∀ {i:Nat} {c:V},cs[i]?=some c→∃ r,rs[i]?=some r∧RepV G c r
 | [],_,_,i,c,e=>by simp at e
 | x::cs,_,h,i,c,e=>by
  simp only [RepL] at h
  obtain ⟨a,rest,rfl,h1,h2⟩:=h
  cases i with
  | zero=>simp at e;subst e;exact ⟨a,by simp,h1⟩
  | succ i=>simpa using RepL.get h2 (i:=i) (by simpa using e)
theorem RepL.of_get {G:Tie}:∀ {cs:List V} {rs:List Value},rs.length=cs.length→(∀ (i:Nat) (c:V),cs[i]?=some c→∃ r,rs[i]?=some r∧RepV G c r)→RepL G cs rs
 | [],rs,hl,_=>by simp only [RepL];simpa using hl
 | c::cs,[],hl,_=>by simp at hl
 | c::cs,r::rs,hl,h=>by
  simp only [RepL]
  refine ⟨r,rs,rfl,?_,RepL.of_get (by simpa using hl) fun i c' e=>?_⟩
  ·obtain ⟨r',e',h'⟩:=h 0 c (by simp)
   simp at e'
   exact e'▸h'
  ·simpa using h (i+1) c' (by simpa using e)
theorem RepL.append {G:Tie} {cs ds:List V} {rs ss:List Value} (h:RepL G cs rs) (k:RepL G ds ss):RepL G (cs++ds) (rs++ss):=by
 induction cs generalizing rs with
 | nil=>simp only [RepL] at h;subst h;simpa using k
 | cons c cs ih =>
  simp only [RepL] at h
  obtain ⟨a,rest,rfl,h1,h2⟩:=h
  simp only [List.cons_append,RepL]
  exact ⟨a,rest++ss,rfl,h1,ih h2⟩
theorem RepL.take {G:Tie} {cs:List V} {rs:List Value} (h:RepL G cs rs) (k:Nat):RepL G (cs.take k) (rs.take k) :=
 RepL.of_get (by simp [h.length]) fun i c e=>by
  rw [List.getElem?_take] at e ⊢
  split at e
  ·rename_i hi
   rw [if_pos hi]
   exact h.get e
  ·simp at e
theorem RepL.drop {G:Tie} {cs:List V} {rs:List Value} (h:RepL G cs rs) (k:Nat):RepL G (cs.drop k) (rs.drop k) :=
 RepL.of_get (by simp [h.length]) fun i c e=>by
  rw [List.getElem?_drop] at e ⊢
  exact h.get e
theorem RepF.get {G:Tie}:∀ {b o:Nat} {cs:List V},RepF G b o cs→∀ {i:Nat} {c:V},cs[i]?=some c→∃ r,G.fz b (o+i)=some r∧RepV G c r
 | _,_,[],_,i,c,e=>by simp at e
 | b,o,x::cs,h,i,c,e=>by
  simp only [RepF] at h
  cases i with
  | zero=>simp at e;subst e;exact h.1
  | succ i =>
   have:=RepF.get h.2 (i:=i) (by simpa using e)
   rwa [show o+1+i=o+(i+1) by omega] at this
theorem RepF.of_get {G:Tie}:∀ {b o:Nat} {cs:List V},(∀ (i:Nat) (c:V),cs[i]?=some c→∃ r,G.fz b (o+i)=some r∧RepV G c r)→RepF G b o cs
 | _,_,[],_=>by simp [RepF]
 | b,o,x::cs,h=>by
  simp only [RepF]
  refine ⟨by simpa using h 0 x (by simp),RepF.of_get fun i c e=>?_⟩
  have:=h (i+1) c (by simpa using e)
  rwa [show o+(i+1)=o+1+i by omega] at this
theorem x0T.get {G:Tie} {sz b:Nat}:∀ {o:Nat} {rows:List (List V)},x0T G sz b o rows→∀ {i:Nat} {cs:List V},rows[i]?=some cs→cs.length=sz∧RepF G b (o+i*sz) cs
 | _,[],_,i,c,e=>by simp at e
 | o,x::rows,h,i,cs,e=>by
  simp only [x0T] at h
  cases i with
  | zero=>simp at e;subst e;simpa using ⟨h.1,h.2.1⟩
  | succ i =>
   have:=x0T.get h.2.2 (i:=i) (by simpa using e)
   rwa [show o+sz+i*sz=o+(i+1)*sz by rw [Nat.add_mul];omega] at this
theorem x0T.of_get {G:Tie} {sz b:Nat}:∀ {o:Nat} {rows:List (List V)},(∀ (i:Nat) (cs:List V),rows[i]?=some cs→cs.length=sz∧RepF G b (o+i*sz) cs)→x0T G sz b o rows
 | _,[],_=>by simp [x0T]
 | o,x::rows,h=>by
  simp only [x0T]
  have h0:=h 0 x (by simp)
  refine ⟨h0.1,by simpa using h0.2,x0T.of_get fun i cs e=>?_⟩
  have:=h (i+1) cs (by simpa using e)
  rwa [show o+(i+1)*sz=o+sz+i*sz by rw [Nat.add_mul];omega] at this
theorem RepV.one {G:Tie} {v:V} {r:Value} (h:RepV G v r) (h1:zm v=true):r.oneCell'=true:=by
 cases v<;>simp only [zm,RepV,Bool.false_eq_true] at h h1
 ·exact h.1▸h.2
 ·obtain ⟨a,cap,rfl,_⟩:=h;rfl
 ·obtain ⟨_,a,cap,rfl,_⟩:=h;rfl
 ·obtain ⟨_,rfl⟩:=h;rfl
 ·obtain ⟨_,a,rfl,_⟩:=h;rfl
 ·obtain ⟨b,o,rfl,_⟩:=h;rfl
 ·obtain ⟨ra,rc,rfl,_⟩:=h;rfl
 ·obtain ⟨rv,rfl,_⟩:=h;rfl
 ·obtain ⟨_,rfl⟩:=h;rfl
 ·exact h
theorem RepV.cells {G:Tie} {v:V} {r:Value} (h:RepV G v r) (hu:v≠.undef):RepL G v.cells r.cells.toList:=by
 cases v<;>simp only [RepV,V.cells] at h ⊢
 ·exact absurd rfl hu
 ·obtain ⟨rfl,h1⟩:=h
  cases r<;>simp [Value.oneCell'] at h1<;>simp [Value.cells,RepL,RepV,Value.oneCell']
 ·obtain ⟨rs,rfl,h⟩:=h;simpa [Value.cells] using h
 ·obtain ⟨rs,rfl,h⟩:=h;simp [Value.cells,RepL,RepV];exact h
 ·obtain ⟨a,cap,rfl,h⟩:=h
  simp only [Value.cells,RepL]
  exact ⟨_,[],rfl,by simp only [RepV];exact ⟨a,cap,rfl,h⟩,rfl⟩
 ·obtain ⟨hb,a,cap,rfl,h⟩:=h
  simp only [Value.cells,RepL]
  exact ⟨_,[],rfl,by simp only [RepV];exact ⟨hb,a,cap,rfl,h⟩,rfl⟩
 ·obtain ⟨hb,rfl⟩:=h
  simp only [Value.cells,RepL]
  exact ⟨_,[],rfl,by simp [RepV,hb],rfl⟩
 ·obtain ⟨hb,a,rfl,h⟩:=h
  simp only [Value.cells,RepL]
  exact ⟨_,[],rfl,by simp only [RepV];exact ⟨hb,a,rfl,h⟩,rfl⟩
 ·obtain ⟨b,o,rfl,h⟩:=h
  simp only [Value.cells,RepL]
  exact ⟨_,[],rfl,by simp only [RepV];exact ⟨b,o,rfl,h⟩,rfl⟩
 ·obtain ⟨ra,rc,rfl,h⟩:=h
  simp only [Value.cells,RepL]
  exact ⟨_,[],rfl,by simp only [RepV];exact ⟨ra,rc,rfl,h⟩,rfl⟩
 ·obtain ⟨rv,rfl,h⟩:=h
  simp only [Value.cells,RepL]
  exact ⟨_,[],rfl,by simp only [RepV];exact ⟨rv,rfl,h⟩,rfl⟩
 ·obtain ⟨hb,rfl⟩:=h
  simp only [Value.cells,RepL]
  exact ⟨_,[],rfl,by simp [RepV,hb],rfl⟩
 ·cases r<;>simp [Value.oneCell'] at h<;>simp [Value.cells,RepL,RepV,Value.oneCell']
def Tie.real (G:Tie) (h:Heap) (b:Nat):Option Nat :=
 match h[b]? with
 | some (.box ..)=>some (G.bx b)
 | some (.row ..)=>(G.rw b).map (·.blk)
 | some (.mmap _)=>some (G.bx b)
 | _=>none
def RepM (G:Tie):List (Value×V)→List MapEntry→Prop
 | [],l=>l=[]
 | e::es,l=>∃ x r,l=x::r∧x.key=e.1∧RepV G e.2 x.val∧RepM G es r
theorem RepM.ext0 {G G':Tie} (x:Ext0 G G'):∀ {es:List (Value×V)} {l:List MapEntry},RepM G es l→RepM G' es l
 | [],l,h=>h
 | e::es,l,h=>by
  simp only [RepM] at h ⊢
  obtain ⟨y,r,e1,h1,h2,h3⟩:=h
  exact ⟨y,r,e1,h1,h2.ext0 x,RepM.ext0 x h3⟩
theorem RepM.ext {G G':Tie} (x:Ext G G') {es:List (Value×V)} {l:List MapEntry} (h:RepM G es l):RepM G' es l:=RepM.ext0 x.toExt0 h
theorem RepM.length {G:Tie}:∀ {es:List (Value×V)} {l:List MapEntry},RepM G es l→l.length=es.length
 | [],l,h=>by simp only [RepM] at h;simp [h]
 | e::es,l,h=>by
  simp only [RepM] at h
  obtain ⟨y,r,rfl,h1,h2,h3⟩:=h
  simp [h3.length]
theorem RepM.snoc {G:Tie} {e:Value×V} {x:MapEntry} (hk:x.key=e.1) (hv:RepV G e.2 x.val):∀ {es:List (Value×V)} {l:List MapEntry},RepM G es l→RepM G (es++[e]) (l++[x])
 | [],l,h=>by
  simp only [RepM] at h
  subst h
  exact ⟨x,[],rfl,hk,hv,rfl⟩
 | e'::es,l,h=>by
  simp only [RepM] at h
  obtain ⟨y,r,rfl,h1,h2,h3⟩:=h
  exact ⟨y,r++[x],rfl,h1,h2,RepM.snoc hk hv h3⟩
theorem RepM.set {G:Tie} {e:Value×V} {x:MapEntry} (hk:x.key=e.1) (hv:RepV G e.2 x.val):∀ {es:List (Value×V)} {l:List MapEntry} {i:Nat},RepM G es l→RepM G (es.set i e) (l.set i x)
 | [],l,i,h=>by simp only [RepM] at h;subst h;simp [RepM]
 | e'::es,l,i,h=>by
  simp only [RepM] at h
  obtain ⟨y,r,rfl,h1,h2,h3⟩:=h
  cases i with
  | zero=>exact ⟨x,r,rfl,hk,hv,h3⟩
  | succ i=>exact ⟨y,r.set i x,rfl,h1,h2,RepM.set hk hv h3⟩
theorem RepM.mem {G:Tie}:∀ {es:List (Value×V)} {l:List MapEntry} {e:Value×V},RepM G es l→e∈es→∃ x∈l,x.key=e.1∧RepV G e.2 x.val
 | [],l,e,h,he=>by simp at he
 | e'::es,l,e,h,he=>by
  simp only [RepM] at h
  obtain ⟨y,r,rfl,h1,h2,h3⟩:=h
  rcases List.mem_cons.1 he with rfl | he
  ·exact ⟨y,by simp,h1,h2⟩
  ·obtain ⟨x,hx,q1,q2⟩:=h3.mem he
   exact ⟨x,by simp [hx],q1,q2⟩
def x2A (G:Tie) (sz:Nat) (rs:Array Value) (rows:List (List V)):Prop :=
 ∀ i cs,rows[i]?=some cs→cs.length=sz∧cs.all zm=true∧∀ j c,cs[j]?=some c→∃ v,rs[i*sz+j]?=some v∧RepV G c v
structure Rel (G:Tie) (h:Heap) (w:World):Prop where
 n:G.n=h.length
 fz:∀ b o v,G.fz b o=some v→w.cell? ⟨b,o,none⟩=some v
 box:∀ b t cs,h[b]?=some (.box t cs)→cs.all zm=true∧∃ rs,w.heap[G.bx b]?=some (.cells rs t (0,0))∧RepL G cs rs.toList
 row:∀ b t sz e rows,h[b]?=some (.row t sz e rows)→0<sz∧∃ L rs,G.rw b=some L∧L.e=e∧L.sz=sz∧(rows.length≤L.cp∧rows.length=L.vis) ∧
  w.heap[L.blk]?=some (.cells rs t (0,0))∧rs.size=L.cp*sz∧x2A G sz rs rows
 mp:∀ b es,h[b]?=some (.mmap es)→∃ l clock,w.heap[G.bx b]?=some (.map l clock)∧RepM G es l.toList
 low:∀ b k,G.real h b=some k→G.b0≤k∧∀ o,G.fz k o=none
 inj:∀ b b' k,G.real h b=some k→G.real h b'=some k→b=b'
 hb0:G.b0≤w.heap.size
 kp:∀ k,G.kp k=true→k<w.heap.size∧(∀ o,G.fz k o=none)∧∀ b,G.real h b≠some k
theorem x2A.ext0 {G G':Tie} (x:Ext0 G G') {sz:Nat} {rs:Array Value} {rows:List (List V)} (h:x2A G sz rs rows):x2A G' sz rs rows :=
 fun i cs e=>let ⟨h1,h2,h3⟩:=h i cs e;⟨h1,h2,fun j c ec=>let ⟨v,hv,hr⟩:=h3 j c ec;⟨v,hv,hr.ext0 x⟩⟩
theorem x2A.ext {G G':Tie} (x:Ext G G') {sz:Nat} {rs:Array Value} {rows:List (List V)} (h:x2A G sz rs rows):x2A G' sz rs rows:=h.ext0 x.toExt0
theorem Rel.lt {G:Tie} {h:Heap} {w:World} (R:Rel G h w) {b k:Nat} (hk:G.real h b=some k):k<w.heap.size:=by
 unfold Tie.real at hk
 split at hk
 ·rename_i t cs e
  obtain ⟨_,rs,hw,_⟩:=R.box b t cs e
  injection hk with hk
  subst hk
  exact (Array.getElem?_eq_some_iff.1 hw).1
 ·rename_i t sz e rows eq
  obtain ⟨_,L,rs,hL,_,_,_,hw,_⟩:=R.row b t sz e rows eq
  rw [hL] at hk
  simp at hk
  subst hk
  exact (Array.getElem?_eq_some_iff.1 hw).1
 ·rename_i es eq
  obtain ⟨l,clock,hw,_⟩:=R.mp b es eq
  injection hk with hk
  subst hk
  exact (Array.getElem?_eq_some_iff.1 hw).1
 ·simp at hk
theorem Rel.kp_of {G:Tie} {h:Heap} {w:World} (R:Rel G h w) {b k:Nat} (hk:G.real h b=some k):G.kp k=false:=by
 cases hc:G.kp k with
 | false=>rfl
 | true=>exact absurd hk ((R.kp k hc).2.2 b)
theorem Rel.kp_new {G:Tie} {h:Heap} {w:World} (R:Rel G h w):G.kp w.heap.size=false:=by
 cases hc:G.kp w.heap.size with
 | false=>rfl
 | true=>exact absurd (R.kp _ hc).1 (Nat.lt_irrefl _)
structure Bel (G:Tie) (w w':World):Prop where
 bel:Below G.b0 w w'
 kept:∀ k,G.kp k=true→w'.heap[k]?=w.heap[k]?
theorem Bel.refl (G:Tie) (w:World):Bel G w w:=⟨Below.refl _ _,fun _ _=>rfl⟩
theorem Bel.trans {G:Tie} {w w' w'':World} (h:Bel G w w') (k:Bel G w' w''):Bel G w w'':=⟨h.bel.trans k.bel,fun c hc=>(k.kept c hc).trans (h.kept c hc)⟩
theorem Rel.world {G:Tie} {h:Heap} {w w':World} (R:Rel G h w) (hs:w.heap.size≤w'.heap.size) (hw:∀ k,k<w.heap.size→w'.heap[k]?=w.heap[k]?):Rel G h w' where
 n:=R.n
 fz b o v hv:=by
  have:=R.fz b o v hv
  have hb:b<w.heap.size:=by
   unfold World.cell? at this
   rcases Nat.lt_or_ge b w.heap.size with hb | hb
   ·exact hb
   ·simp [Array.getElem?_eq_none hb] at this
  unfold World.cell? at this ⊢
  rwa [hw b hb]
 box b t cs e:=by
  obtain ⟨h1,rs,h2,h3⟩:=R.box b t cs e
  exact ⟨h1,rs,by rw [hw _ (Array.getElem?_eq_some_iff.1 h2).1];exact h2,h3⟩
 row b t sz e rows eq:=by
  obtain ⟨h0,L,rs,h1,h2,h3,h4,h5,h6⟩:=R.row b t sz e rows eq
  exact ⟨h0,L,rs,h1,h2,h3,h4,by rw [hw _ (Array.getElem?_eq_some_iff.1 h5).1];exact h5,h6⟩
 mp b es e:=by
  obtain ⟨l,clock,h1,h2⟩:=R.mp b es e
  exact ⟨l,clock,by rw [hw _ (Array.getElem?_eq_some_iff.1 h1).1];exact h1,h2⟩
 low:=R.low
 inj:=R.inj
 hb0:=Nat.le_trans R.hb0 hs
 kp k hk:=let ⟨h1,h2⟩:=R.kp k hk;⟨Nat.lt_of_lt_of_le h1 hs,h2⟩
def x0w (G:Tie) (en:Env) (tmps:Array Value):Prop:=∀ t,RepV G (en t) (tmps.getD t undef)
theorem x0w.ext0 {G G':Tie} (x:Ext0 G G') {en:Env} {tmps:Array Value} (h:x0w G en tmps):x0w G' en tmps:=fun t=>(h t).ext0 x
theorem x0w.ext {G G':Tie} (x:Ext G G') {en:Env} {tmps:Array Value} (h:x0w G en tmps):x0w G' en tmps:=fun t=>(h t).ext x
theorem x0w.put {G:Tie} {en:Env} {tmps:Array Value} (h:x0w G en tmps) {t:Nat} (ht:t<tmps.size) {v:V} {r:Value} (hv:RepV G v r) :
  x0w G (en.upd t v) (tmps.setIfInBounds t r):=by
 intro x
 unfold Env.upd
 by_cases e:x=t
 ·subst e
  rw [if_pos rfl]
  simpa [Array.getD,ht] using hv
 ·rw [if_neg e]
  have:=h x
  simp only [Array.getD] at this ⊢
  split
  ·rename_i hx
   have hx':x<tmps.size:=by simpa using hx
   rw [dif_pos hx'] at this
   simp only [Array.getInternal_eq_getElem] at this ⊢
   rw [Array.getElem_setIfInBounds_ne]
   ·exact this
   ·omega
  ·rename_i hx
   rw [dif_neg (by simpa using hx)] at this
   exact this
end
end Go.Am
