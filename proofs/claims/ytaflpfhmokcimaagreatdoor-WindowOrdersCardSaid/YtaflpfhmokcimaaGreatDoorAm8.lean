/- The abstract machine and what is proved in it, part 8. -/
import Derived.Test.YtaflpfhmokcimaaGreatDoorAm7
set_option linter.unusedVariables false
set_option linter.unusedSimpArgs false
namespace Go.Am
section
theorem xlz {h:Heap} {b e off len k z:Nat} {t:TypeId} {rs:List (List V)} (hg:h[b]?=some (.row t z e rs)) (hk:k<len) (hl:off+len≤rs.length):zi h z k (.hsl b e off len)=some (.rptr b e (off+k) 0):=by
 simp only [zi,rowAt,hg,if_true]
 rw [if_pos ⟨trivial,hk,hl⟩]
theorem x5I {h:Heap} {b e len k z:Nat} {t:TypeId} {rs:List (List V)} (hg:h[b]?=some (.row t z e rs)) (hk:k<len) (hl:len≤rs.length):zi h z k (.hsl b e 0 len)=some (.rptr b e k 0):=by
 have:=xlz (off:=0) hg hk (by omega)
 rwa [Nat.zero_add] at this
theorem x5R {h:Heap} {b e i off z:Nat} {t:TypeId} {n:Option Nat} {rs:List (List V)} {cs:List V} (hg:h[b]?=some (.row t z e rs)) (hi:rs[i]?=some cs) (ho:off+n.getD 1≤cs.length):zl h n (.rptr b e i off)=zb n cs off:=by
 simp only [zl,rowAt,hg,if_true,hi,Option.bind_some,ho]
theorem x2Y {h:Heap} {b off:Nat} {t:TypeId} {n:Option Nat} {cs:List V} (hg:h[b]?=some (.box t cs)):zl h n (.ptr b off)=zb n cs off:=by
 simp only [zl,hg]
theorem xfE {base b:Nat} {x:Value}:x0H base b [.sc x]=true:=by simp [x0H,x0B,x0n]
theorem x9j {base:Nat} {h:Heap} {b e i off z:Nat} {t:TypeId} {rs:List (List V)} {cs:List V} {x:Value} (hg:h[b]?=some (.row t z e rs)) (hi:rs[i]?=some cs) (ho:off<cs.length) :
  x0y base h 1 (.rptr b e i off) (.sc x)=some (h.set b (.row t z e (rs.set i (cs.set off (.sc x))))):=by
 have hp:x0E cs off [.sc x]=cs.set off (.sc x):=by
  unfold x0E
  rw [List.set_eq_take_append_cons_drop,if_pos ho]
  simp
 have h1:off+1≤cs.length:=ho
 simp only [x0y,V.cells,List.length_cons,List.length_nil,List.all_cons,List.all_nil,zm,Bool.and_true,Nat.zero_add,and_self,hg,hi,if_true,h1,xfE,hp]
theorem xiH {base:Nat} {h:Heap} {b off:Nat} {t:TypeId} {cs:List V} {x:Value} (hg:h[b]?=some (.box t cs)) (ho:off<cs.length) :
  x0y base h 1 (.ptr b off) (.sc x)=some (h.set b (.box t (cs.set off (.sc x)))):=by
 have hp:x0E cs off [.sc x]=cs.set off (.sc x):=by
  unfold x0E
  rw [List.set_eq_take_append_cons_drop,if_pos ho]
  simp
 have h1:off+1≤cs.length:=ho
 simp only [x0y,V.cells,List.length_cons,List.length_nil,List.all_cons,List.all_nil,zm,Bool.and_true,Nat.zero_add,and_self,hg,if_true,h1,xfE,hp]
theorem x3I {h:Heap} {o:Obj}:(h++[o])[h.length]?=some o:=by simp
theorem xcG {h:Heap} {o p:Obj}:(h++[o]).set h.length p=h++[p]:=by simp
theorem xeY {h:Heap} {o:Obj}:(h++[o]).take h.length=h:=by simp
def vrow (n:Nat) (g:Nat→Value):List (List V):=(List.range n).map fun i=>[.sc (g i)]
theorem xcv (n:Nat) (g:Nat→Value):(vrow n g).length=n:=by simp [vrow]
theorem x75 {n i:Nat} {g:Nat→Value} (h:i<n):(vrow n g)[i]?=some [.sc (g i)]:=by simp [vrow,h]
theorem x6n {n i:Nat} {g:Nat→Value} {x:Value}:(vrow n g).set i [.sc x]=vrow n fun j=>if j=i then x else g j:=by
 apply List.ext_getElem?
 intro k
 unfold vrow
 rw [List.getElem?_set]
 by_cases hk:k<n
 ·by_cases e:i=k
  ·subst e;simp [hk]
  ·simp [hk,e,show ¬ k=i from fun h=>e h.symm]
 ·by_cases e:i=k
  ·subst e;simp [hk]
  ·simp [hk,e]
theorem x6o {n:Nat} {g f:Nat→Value} (h:∀ i,i<n→g i=f i):vrow n g=vrow n f:=by
 unfold vrow
 refine List.map_congr_left fun i hi=>?_
 rw [h i (List.mem_range.1 hi)]
theorem xh9 {n:Nat} {x:Value}:List.replicate n [V.sc x]=vrow n fun _=>x:=by
 apply List.ext_getElem?
 intro k
 unfold vrow
 by_cases hk:k<n<;>simp [hk]
theorem x76 (n:Nat) (g:Nat→Value):(vrow n g).flatten=(List.range n).map fun i=>V.sc (g i):=by
 unfold vrow
 generalize List.range n=l
 induction l<;>simp_all
theorem xbn (l:List V):x3R 1 l=l.map fun v=>[v]:=by
 apply List.ext_getElem?
 intro k
 unfold x3R
 by_cases hk:k<l.length
 ·simp [hk,List.take_one,List.head?_drop]
 ·simp [hk]
theorem x92 (n:Nat) (g:Nat→Value):x3R 1 ((List.range n).map fun i=>V.sc (g i))=vrow n g:=by
 rw [xbn,List.map_map]
 rfl
theorem x8c {cs:List V} {off:Nat} {x:V} (h:off<cs.length):x0E cs off [x]=cs.set off x:=by
 unfold x0E
 rw [List.set_eq_take_append_cons_drop,if_pos h]
 simp
theorem x7y {h:Heap} {b e n i:Nat} {t:TypeId} {g:Nat→Value} (hg:h[b]?=some (.row t 1 e (vrow n g))) (hi:i<n):zl h none (.rptr b e 0 i)=some (.sc (g i)):=by
 simp only [zl,rowAt,hg,if_true,x75 (show 0<n by omega),Option.bind_some,Option.getD_none,List.length_cons,List.length_nil,x76,zb]
 split
 ·obtain rfl:i=0:=by omega
  rfl
 ·simp [hi]
theorem x9U {base:Nat} {h:Heap} {b e n i:Nat} {t:TypeId} {g:Nat→Value} {x:Value} (hg:h[b]?=some (.row t 1 e (vrow n g))) (hi:i<n) :
  x0y base h 1 (.rptr b e 0 i) (.sc x)=some (h.set b (.row t 1 e (vrow n fun j=>if j=i then x else g j))):=by
 have hf:(vrow n g).flatten.length=n:=by rw [x76];simp
 simp only [x0y,V.cells,List.length_cons,List.length_nil,List.all_cons,List.all_nil,zm,Bool.and_true,Nat.zero_add,and_self,hg,if_true,x75 (show 0<n by omega),xfE,hf]
 by_cases h0:i=0
 ·subst h0
  simp only [Nat.zero_add,Nat.le_refl,and_self,if_true]
  rw [x8c (by simp),show [V.sc (g 0)].set 0 (.sc x)=[V.sc x] from rfl,x6n]
 ·rw [if_neg (by simp;omega)]
  have h1:i+1≤n:=hi
  simp only [h1,and_self,if_true]
  rw [x8c (by rw [hf];exact hi),x76]
  congr 2
  rw [← x6n,xbn]
  congr 1
  unfold vrow
  rw [List.map_set,List.map_map]
  rfl
end
section
def x5Z (n:Nat) (pc:Int):Option Nat:=if pc<65536∨65536+4*(n:Int)≤pc∨pc%4≠0 then none else some ((pc-65536)/4).toNat
theorem xkV {pc:Int} (h:65536≤pc):pc.tmod 4=pc%4:=Int.tmod_eq_emod_of_nonneg (by omega)
theorem xnb {pc:Int} (h:0≤pc):pc.tdiv 4=pc/4:=Int.tdiv_eq_ediv_of_nonneg h
theorem xjC {base:Nat} (n:Nat) (pc:Int) (h:Heap) (hn:n≤500):WpF S0 base xaj [.sc (.int .i64 pc),.sc (.int .i64 65536),.sc (.int .i64 4),V.int n] h fun v h'=>v=.tup [V.int ((x5Z n pc).getD 0:Nat),.bool (x5Z n pc).isSome]∧h'=h:=by
 have w1:IntKind.i64.wrap (4*(n:Int))=4*n:=x08 (by omega) (by omega)
 have w2:IntKind.i64.wrap (65536+4*(n:Int))=65536+4*n:=x08 (by omega) (by omega)
 have hz:¬ ((4:Int)=0):=by decide
 first | refine zu (A:=x2M) rfl rfl rfl rfl ?_ | refine zB (A:=x2M) rfl rfl rfl rfl ?_
 simp only [x2M,oD,cD,τ,φ,ι]
 by_cases hk:pc<65536∨65536+4*(n:Int)≤pc∨pc%4≠0
 ·rw [show x5Z n pc=none from if_pos hk]
  (simp only [SQ,zm,AOp.opds,step,Opd.get,zk,bin,zzc,IntKind.signed,zi,zj,zl,zb,unary,ze,zd,za,zo,zr,zh,zf,zg,zp,Cp.isFull,isNil,zq,simprocAttr,SQX,V.cells,w1,w2,hz];repeat' ((first | refine x0G ?_ ?_ | refine x0u ?_ ?_ | refine x0v ?_ ?_)<;>(intro hb;simp only [SQ,zm,AOp.opds,step,Opd.get,zk,bin,zzc,IntKind.signed,zi,zj,zl,zb,unary,ze,zd,za,zo,zr,zh,zf,zg,zp,Cp.isFull,isNil,zq,simprocAttr,SQX,V.cells,hb,w1,w2,hz])))
  all_goals (simp at *)
  all_goals (rw [xkV (by omega)] at *;omega)
 ·rw [show x5Z n pc=some ((pc-65536)/4).toNat from if_neg hk]
  have w4:IntKind.i64.wrap (pc-65536)=pc-65536:=x08 (by omega) (by omega)
  have w5:IntKind.i64.wrap ((pc-65536).tdiv 4)=(((pc-65536)/4).toNat:Int):=by
   rw [xnb (by omega),x08 (by omega) (by omega)];omega
  have m4:pc.tmod 4=0:=by rw [xkV (by omega)];omega
  have c1:¬ pc<65536:=by omega
  have c2:¬ (65536+4*(n:Int)≤pc):=by omega
  simp only [SQ,SQB,zm,AOp.opds,step,Opd.get,zk,bin,zzc,IntKind.signed,zi,zj,zl,zb,unary,ze,zd,za,zo,zr,zh,zf,zg,zp,Cp.isFull,isNil,zq,simprocAttr,SQX,V.cells,w1,w2,w4,w5,m4,c1,c2,hz,Option.isSome_some]
structure Ins where
 op:Int
 rd:Int
 a:Int
 b:Int
 imm:Int
 aq:Bool
 rl:Bool
abbrev Ins.v (i:Ins):V:=ins i.op i.rd i.a i.b i.imm i.aq i.rl
def insP (w:Nat):Ins:=if mayI (opN w) (prd w (x0a (opN w))) (pA w (x0a (opN w))) (pB w (x0a (opN w))) (immW w (x0a (opN w))) (pAq w (x0a (opN w))) (pRl w (x0a (opN w)))=true∧encP (opN w).toNat (prd w (x0a (opN w))).toNat (pA w (x0a (opN w))).toNat (pB w (x0a (opN w))).toNat (uN (immW w (x0a (opN w)))%4294967296) (pAq w (x0a (opN w))) (pRl w (x0a (opN w)))=w then ⟨opN w,prd w (x0a (opN w)),pA w (x0a (opN w)),pB w (x0a (opN w)),immW w (x0a (opN w)),pAq w (x0a (opN w)),pRl w (x0a (opN w))⟩ else ⟨0,0,0,0,w,false,false⟩
theorem xdg (w:Nat):decP w=(insP w).v:=by
 unfold decP insP
 split<;>rfl
def atI (ws:List Nat) (pc:Int):Ins:=match x5Z ws.length pc with
 | none=>⟨0,0,0,0,0,false,false⟩
 | some k=>insP (ws.getD k 0)
abbrev wrd (ws:List Nat):List (List V):=ws.map fun w=>[U32 w]
theorem xky {n:Nat} {pc:Int} {k:Nat} (h:x5Z n pc=some k):k<n:=by
 unfold x5Z at h
 split at h
 ·cases h
 ·injection h with h
  omega
theorem xmT {ws:List Nat} {k:Nat} (h:k<ws.length):(wrd ws)[k]?=some [U32 (ws.getD k 0)]:=by
 rw [List.getElem?_map,List.getElem?_eq_getElem h]
 simp [List.getD,List.getElem?_eq_getElem h]
theorem xlJ {ws:List Nat} (hw:∀ w∈ws,w<2 ^ 32) {k:Nat} (h:k<ws.length):ws.getD k 0<2 ^ 32:=by
 have:ws.getD k 0=ws[k]:=by simp [List.getD,List.getElem?_eq_getElem h]
 rw [this]
 exact hw _ (List.getElem_mem h)
theorem xa8 (x:Value):zm (.sc x)=true:=rfl
def xh3 (h:Heap) (cv:V) (ws:List Nat):Prop:=zm cv=true∧zk cv=some ws.length∧∀ k,k<ws.length→∃ p,zi h 1 k cv=some p∧zl h none p=some (U32 (ws.getD k 0))
abbrev imgA (cv dv ev:V):Obj:=.box 25 [cv,dv,ev]
set_option maxHeartbeats 1000000 in
theorem xlD {base:Nat} (cv dv ev:V) (ws:List Nat) (pc:Int) (h:Heap) (hc:∀ ext,xh3 (h++ext) cv ws) (hd:zm dv=true) (he:zm ev=true) (hn:ws.length≤500) (hw:∀ w∈ws,w<2 ^ 32):WpF S0 base x7g [.agg [cv,dv,ev],.sc (.int .i64 pc)] h fun v h'=>v=.tup [(atI ws pc).v,.bool (x5Z ws.length pc).isSome]∧h'=h:=by
 have hP:=fun base h=>xjC (base:=base) ws.length pc h hn
 obtain ⟨h1,hl,_⟩:=hc []
 have l0:∀ B,zl (h++[imgA cv dv ev]++[B]) none (.ptr h.length 0)=some cv:=fun B=>by
  have e:(h++[imgA cv dv ev]++[B])[h.length]?=some (imgA cv dv ev):=by simp
  rw [x2Y e];rfl
 have z7:x0q [.sc (.int .i64 0),.sc (.int .i64 0),.sc (.int .i64 0),.sc (.int .i64 0),.sc (.int .i64 0),.sc (.bool false),.sc (.bool false)] []=some [.sc (.int .i64 0),.sc (.int .i64 0),.sc (.int .i64 0),.sc (.int .i64 0),.sc (.int .i64 0),.sc (.bool false),.sc (.bool false)]:=rfl
 unfold atI
 first | refine zu (A:=x2N) rfl rfl rfl rfl ?_ | refine zB (A:=x2N) rfl rfl rfl rfl ?_
 simp only [x2N,oD,cD,τ,φ,ι]
 cases hk:x5Z ws.length pc with
 | none =>
  rw [hk] at hP
  simp only [SQ,SQB,AOp.opds,step,Opd.get,bin,zzc,IntKind.signed,zi,zj,zb,unary,ze,zd,za,zo,zr,zh,zf,zg,zp,Cp.isFull,isNil,zq,simprocAttr,SQX,V.cells,xa8,ldE,h1,hd,he,hl,l0,zn (hP _ _),x0g,z7,x2O,x66,x51,x9p,Nat.le_refl,List.take_length,List.take_succ_cons,List.take_zero,Option.isSome_none,Option.getD_none]
 | some k =>
  have hkl:=xky hk
  have hD:=fun base h=>xmM (base:=base) (ws.getD k 0) h (xlJ hw hkl)
  obtain ⟨_,_,hr⟩:=hc ([imgA cv dv ev]++[.box 30 [.sc (.int .i64 0),.sc (.int .i64 0),.sc (.int .i64 0),.sc (.int .i64 0),.sc (.int .i64 0),.sc (.bool false),.sc (.bool false)]])
  obtain ⟨p,hp,hq⟩:=hr k hkl
  rw [← List.append_assoc] at hp hq
  rw [hk] at hP
  rw [xdg] at hD
  simp only [SQ,SQB,AOp.opds,step,Opd.get,bin,zzc,IntKind.signed,zj,zb,unary,ze,zd,za,zo,zr,zh,zf,zg,zp,Cp.isFull,isNil,zq,simprocAttr,SQX,V.cells,xa8,ldE,h1,hd,he,hl,l0,hp,hq,zn (hP _ _),zn (hD _ _),x0g,z7,x2O,x66,x51,x9p,Nat.le_refl,List.take_length,List.take_succ_cons,List.take_zero,Option.isSome_some,Option.getD_some]
def badI (op:Int):Int:=if op=0 then 4 else if op=65 then 7 else if accI op&&!xbv op then 6 else 0
def nxtI (op imm pc guess:Int):Int:=if op=3 then IntKind.i64.wrap (pc+imm) else if op=4 then guess else if (5≤op∧op≤10)∧guess≠0 then IntKind.i64.wrap (pc+imm) else IntKind.i64.wrap (pc+4)
def valI (op imm pc:Int):Int:=if op=1 then IntKind.i64.wrap (4096*imm) else if op=2 then IntKind.i64.wrap (pc+IntKind.i64.wrap (4096*imm)) else if op=3∨op=4 then IntKind.i64.wrap (pc+4) else 0
def rdyI (op:Int):Bool:=decide (1≤op∧op≤4)
def donI (op:Int):Bool:=decide ((1≤op∧op≤3)∨op=63)
abbrev sci (n:Int):V:=.sc (.int .i64 n)
abbrev scb (b:Bool):V:=.sc (.bool b)
abbrev entC (pc op rd a b imm:Int) (aq rl:Bool) (next bad val:Int) (rdy don:Bool):List V:=[sci pc,sci op,sci rd,sci a,sci b,sci imm,scb aq,scb rl,sci next,sci 0,scb false,sci bad,sci val,scb rdy,scb don,scb false,sci (-1),sci 0]
abbrev entV (i:Ins) (pc guess bad:Int):V:=.agg (entC pc i.op i.rd i.a i.b i.imm i.aq i.rl (nxtI i.op i.imm pc guess) bad (valI i.op i.imm pc) (rdyI i.op) (donI i.op))
theorem xkq (pc op rd a b imm:Int) (aq rl:Bool) {n1 n2 bad v1 v2:Int} {r1 r2 d1 d2:Bool} (h1:n1=n2) (h2:v1=v2) (h3:r1=r2) (h4:d1=d2):V.agg (entC pc op rd a b imm aq rl n1 bad v1 r1 d1)=V.agg (entC pc op rd a b imm aq rl n2 bad v2 r2 d2):=by
 subst h1 h2 h3 h4
 rfl
theorem xmR {op:Int} {is:Bool} (h:(if is=true then badI op else 5)≠0) (h0:is=false→op=0):op=0∨op=65∨(11≤op∧op≤21)∨(66≤op∧op≤87):=by
 cases is with
 | false=>exact .inl (h0 rfl)
 | true =>
  simp only [if_true] at h
  unfold badI accI xbv at h
  by_cases c:11≤op∧op≤21∨66≤op∧op≤87
  ·omega
  ·simp [c] at h
   omega
theorem xoD {base:Nat} (op rd a b imm:Int) (aq rl is:Bool) (h:Heap):WpF S0 base xaT [ins op rd a b imm aq rl,.sc (.bool is)] h fun v h'=>v=.sc (.int .i64 (if is then badI op else 5))∧h'=h:=by
 have h1:=fun base h=>xdm (base:=base) op h
 have h2:=fun base h=>xfQ (base:=base) op h
 first | refine zu (A:=x35) rfl rfl rfl rfl ?_ | refine zB (A:=x35) rfl rfl rfl rfl ?_
 simp only [x35,oD,cD,τ,φ,ι]
 (simp only [SQ,zm,AOp.opds,step,Opd.get,zk,bin,zzc,IntKind.signed,zi,zj,zl,zb,unary,ze,zd,za,zo,zr,zh,zf,zg,zp,Cp.isFull,isNil,zq,simprocAttr,SQX,V.cells,zn (h1 _ _),zn (h2 _ _),Nat.le_refl];repeat' ((first | refine x0G ?_ ?_ | refine x0u ?_ ?_ | refine x0v ?_ ?_)<;>(intro hb;simp only [SQ,zm,AOp.opds,step,Opd.get,zk,bin,zzc,IntKind.signed,zi,zj,zl,zb,unary,ze,zd,za,zo,zr,zh,zf,zg,zp,Cp.isFull,isNil,zq,simprocAttr,SQX,V.cells,hb,zn (h1 _ _),zn (h2 _ _),Nat.le_refl])))
 all_goals (simp [badI] at *;try simp_all)
theorem xjn {base:Nat} (n:Int) (h:Heap):WpF S0 base xc3 [.sc (.int .i64 n)] h fun v h'=>v=.sc (.int .i64 (IntKind.i64.wrap (4096*n)))∧h'=h:=by
 have e:IntKind.i64.wrap (n*2 ^ 12)=IntKind.i64.wrap (4096*n):=by congr 1;omega
 have e3:n*4096=4096*n:=Int.mul_comm _ _
 have e2:min 12 IntKind.i64.bits=12:=rfl
 first | refine zu (A:=x3E) rfl rfl rfl rfl ?_ | refine zB (A:=x3E) rfl rfl rfl rfl ?_
 simp only [x3E,oD,cD,τ,φ,ι]
 simp only [SQ,SQB,zm,AOp.opds,step,Opd.get,zk,bin,zzc,IntKind.signed,zi,zj,zl,zb,unary,ze,zd,za,zo,zr,zh,zf,zg,zp,Cp.isFull,isNil,zq,simprocAttr,SQX,V.cells,e,e2]
 try rw [e3]
theorem xfJ {hh:Heap} {t:TypeId} {cs:List V} {k:Nat}:zl (hh++[.box t cs]) none (.ptr hh.length k)=cs[k]?:=by
 simp [zl,zb]
theorem xhg {base:Nat} {hh:Heap} {t:TypeId} {cs:List V} {k:Nat} {x:Value} (h2:k<cs.length):x0y base (hh++[.box t cs]) 1 (.ptr hh.length k) (.sc x)=some (hh++[.box t (cs.set k (.sc x))]):=by
 have e1:(hh++[Obj.box t cs])[hh.length]?=some (.box t cs):=by simp
 have e2:∀ z:Obj,(hh++[Obj.box t cs]).set hh.length z=hh++[z]:=fun z=>by simp
 unfold x0y
 rw [if_pos ⟨rfl,rfl⟩]
 simp only [e1,e2]
 rw [if_pos ⟨by omega,by unfold x0H;simp [x0B,x0n,V.cells]⟩,show (V.sc x).cells=[.sc x] from rfl,xfg h2]
theorem xeQ {base:Nat} (hh:Heap) (t:TypeId) (v0 v1 v2 v3 v4 v5 v6 v7 v8 v9 v10 v11 v12 v13 v14 v15 v16 v17:V) (n:Int):WpF S0 base x4w [.ptr hh.length 0,.sc (.int .i64 n)] (hh++[.box t [v0,v1,v2,v3,v4,v5,v6,v7,v8,v9,v10,v11,v12,v13,v14,v15,v16,v17]]) fun v h'=>v=.tup []∧h'=hh++[.box t [v0,v1,v2,v3,v4,v5,v6,v7,v8,v9,v10,v11,sci n,scb true,scb true,v15,v16,v17]]:=by
 first | refine zu (A:=x0C) rfl rfl rfl rfl ?_ | refine zB (A:=x0C) rfl rfl rfl rfl ?_
 simp only [x0C,oD,cD,τ,φ,ι]
 simp only [SQ,SQB,zm,AOp.opds,step,Opd.get,zk,bin,zzc,IntKind.signed,zi,zj,zb,unary,ze,zd,za,zo,zr,zh,zf,zg,zp,Cp.isFull,isNil,zq,simprocAttr,SQX,V.cells,xhg,List.set_cons_zero,List.set_cons_succ,Nat.lt_add_one]
 first | done | (rw [List.take_of_length_le (by simp)])
theorem xfI (h l m:Heap):(h.length≤(h++l++m).length)=True:=by simp
theorem x9i (h:Heap) (x y z:Obj):(h++[x]++[y]++[z]).take h.length=h:=by simp
set_option maxHeartbeats 2000000 in
theorem xhY {base:Nat} (cv dv ev:V) (ws:List Nat) (pc guess:Int) (h:Heap) (hc:∀ ext,xh3 (h++ext) cv ws) (hd:zm dv=true) (he:zm ev=true) (hn:ws.length≤500) (hw:∀ w∈ws,w<2 ^ 32):WpF S0 base x5d [.agg [cv,dv,ev],.sc (.int .i64 pc),.sc (.int .i64 guess)] h fun v h'=>v=entV (atI ws pc) pc guess (if (x5Z ws.length pc).isSome then badI (atI ws pc).op else 5)∧h'=h:=by
 have hI:=fun base ex=>xlD (base:=base) cv dv ev ws pc (h++ex) (fun ext=>by rw [List.append_assoc];exact hc _) hd he hn hw
 obtain ⟨h1,_,_⟩:=hc []
 have h0:(x5Z ws.length pc).isSome=false→(atI ws pc).op=0:=fun q=>by
  unfold atI
  cases hc:x5Z ws.length pc with
  | none=>rfl
  | some k=>rw [hc] at q;cases q
 revert hI h0
 generalize (x5Z ws.length pc).isSome=is
 generalize atI ws pc=i
 obtain ⟨op,rd,a,b,imm,aq,rl⟩:=i
 intro hI h0
 have hI':∀ base B,WpF S0 base x7g [.agg [cv,dv,ev],.sc (.int .i64 pc)] (h++[imgA cv dv ev]++[B]) fun v h'=>v=.tup [Ins.v ⟨op,rd,a,b,imm,aq,rl⟩,.bool is]∧h'=(h++[imgA cv dv ev]++[B]):=fun base B=>by
  have:=hI base ([imgA cv dv ev]++[B])
  rwa [← List.append_assoc] at this
 have lim:∀ B,zl (h++[imgA cv dv ev]++[B]) (some 3) (.ptr h.length 0)=some (.agg [cv,dv,ev]):=fun B=>x6S rfl
 have hB:=fun base h=>xoD (base:=base) op rd a b imm aq rl is h
 have hU:=fun base h=>xjn (base:=base) imm h
 have hBr:=fun base h=>x6W (base:=base) op h
 have e2:x0q [.sc (.int .i64 0),.sc (.int .i64 0)] [(0,1,.sc (.int .i64 (-1)))]=some [sci (-1),sci 0]:=rfl
 have e18:∀ next bad:Int,x0q [.sc (.int .i64 0),.sc (.int .i64 0),.sc (.int .i64 0),.sc (.int .i64 0),.sc (.int .i64 0),.sc (.int .i64 0),.sc (.bool false),.sc (.bool false),.sc (.int .i64 0),.sc (.int .i64 0),.sc (.bool false),.sc (.int .i64 0),.sc (.int .i64 0),.sc (.bool false),.sc (.bool false),.sc (.bool false),.sc (.int .i64 0),.sc (.int .i64 0)] [(0,1,sci pc),(1,7,ins op rd a b imm aq rl),(8,1,sci next),(11,1,sci bad),(16,2,.agg [sci (-1),sci 0])]=some (entC pc op rd a b imm aq rl next bad 0 false false):=fun _ _=>rfl
 first | refine zu (A:=x2w) rfl rfl rfl rfl ?_ | refine zB (A:=x2w) rfl rfl rfl rfl ?_
 simp only [x2w,oD,cD,τ,φ,ι]
 (simp only [SQ,AOp.opds,step,Opd.get,zk,bin,zzc,IntKind.signed,zi,zj,zb,unary,ze,zd,za,zo,zr,zh,zf,zg,zp,Cp.isFull,isNil,zq,simprocAttr,SQX,V.cells,xa8,ldE,h1,hd,he,lim,x9i,xfI,zn (hI' _ _),zn (hB _ _),zn (hU _ _),zn (xeQ _ 34 _ _ _ _ _ _ _ _ _ _ _ _ _ _ _ _ _ _ _),zn (hBr _ _),x0g,e2,e18,x2O,x9V,x66,xfJ,x7t,x6S,x9p,x51,Nat.le_refl,List.take_length,List.take_succ_cons,List.take_zero,List.set_cons_zero,List.set_cons_succ];repeat' ((first | refine x0G ?_ ?_ | refine x0u ?_ ?_ | refine x0v ?_ ?_)<;>(intro hb;simp only [SQ,AOp.opds,step,Opd.get,zk,bin,zzc,IntKind.signed,zi,zj,zb,unary,ze,zd,za,zo,zr,zh,zf,zg,zp,Cp.isFull,isNil,zq,simprocAttr,SQX,V.cells,hb,xa8,ldE,h1,hd,he,lim,x9i,xfI,zn (hI' _ _),zn (hB _ _),zn (hU _ _),zn (xeQ _ 34 _ _ _ _ _ _ _ _ _ _ _ _ _ _ _ _ _ _ _),zn (hBr _ _),x0g,e2,e18,x2O,x9V,x66,xfJ,x7t,x6S,x9p,x51,Nat.le_refl,List.take_length,List.take_succ_cons,List.take_zero,List.set_cons_zero,List.set_cons_succ])))
 all_goals clear hI hI' hB hU hBr e2 e18
 all_goals simp only [decide_eq_true_eq,decide_eq_false_iff_not,Bool.not_eq_true',Bool.not_eq_false',x4S] at *
 all_goals (refine xkq _ _ _ _ _ _ _ _ ?_ ?_ ?_ ?_)
 all_goals (try dsimp only)
 all_goals (try (have hq:=xmR (by assumption) h0))
 all_goals (first
  | (rw [Bool.eq_iff_iff];simp only [rdyI,donI,decide_eq_true_eq,Bool.false_eq_true,true_iff,false_iff];omega)
  | (unfold nxtI;(repeat' split)<;>first | rfl | omega)
  | (unfold valI;(repeat' split)<;>first | rfl | omega)
  | trace_state)
end
section
def encI (i:Ins):Nat:=encR (x0a i.op) (encT i.op.toNat (uN i.rd) (uN i.a) (uN i.b)) (uN i.imm) i.aq i.rl
abbrev Ins.may (i:Ins):Bool:=mayI i.op i.rd i.a i.b i.imm i.aq i.rl
theorem x6s (op:Int) (h1:22≤op) (h2:op≤62):x0a op=3∨x0a op=6∨x0a op=7∨x0a op=8:=by
 have h:∀ n:Nat,n<63→22≤n→x0a n=3∨x0a n=6∨x0a n=7∨x0a n=8:=by decide +kernel
 have:=h op.toNat (by omega) (by omega)
 rwa [Int.toNat_of_nonneg (by omega)] at this
theorem xdb (x n k:Nat):fd x 0 n k=x%2 ^ n*2 ^ k:=by rw [x3m];unfold F;rw [Nat.pow_zero,Nat.div_one]
theorem x77 {r:Int} (h0:0≤r) (h1:r<64):uN r=r.toNat:=by unfold uN;omega
theorem xfF {f rd a b imm:Int} {aq rl:Bool} {op:Int} (hf:x0a op=f) (h:mayI op rd a b imm aq rl=true):0≤rd∧rd<32∧(fRd f=false→rd=0)∧0≤a∧a<32∧(fA f=false→a=0)∧0≤b∧b<32∧(fB f=false→b=0)∧immI f imm=true∧(fO f=false→aq=false∧rl=false):=by
 unfold mayI regI at h
 rw [hf] at h
 simp only [Bool.and_eq_true,decide_eq_true_eq,Bool.or_eq_true,Bool.not_eq_true'] at h
 obtain ⟨⟨⟨⟨⟨_,⟨p1,p2⟩,p3⟩,⟨q1,q2⟩,q3⟩,⟨r1,r2⟩,r3⟩,i1⟩,o1⟩:=h
 refine ⟨p1,p2,fun e=>?_,q1,q2,fun e=>?_,r1,r2,fun e=>?_,i1,fun e=>?_⟩
 ·rcases p3 with p | p
  ·rw [e] at p;cases p
  ·exact p
 ·rcases q3 with p | p
  ·rw [e] at p;cases p
  ·exact p
 ·rcases r3 with p | p
  ·rw [e] at p;cases p
  ·exact p
 ·rcases o1 with p | p
  ·rw [e] at p;cases p
  ·exact p
theorem xeM (op:Nat) (h1:1≤op) (h2:op<88) (hf:x0a op≠0):∃ o g s,o<128∧g<8∧s<128∧x0k op=o+g*4096+s*33554432∧o=F (x0k op) 0 7∧g=F (x0k op) 12 3∧s=F (x0k op) 25 7 :=
 ⟨_,_,_,F_lt _ 0 7,F_lt _ 12 3,F_lt _ 25 7,x5P op h2 h1 hf,rfl,rfl,rfl⟩
theorem xmL (op:Nat) (rd a b imm:Int) (aq rl:Bool) (h1:22≤op) (h2:op≤62) (hm:mayI op rd a b imm aq rl=true) :
  ∃ w,encR (x0a op) (encT op (uN rd) (uN a) (uN b)) (uN imm) aq rl=w∧w<2 ^ 32∧x0k op%128=w%128∧prd w (x0a op)=rd∧pA w (x0a op)=a∧pB w (x0a op)=b∧immW w (x0a op)=imm∧pAq w (x0a op)=aq∧pRl w (x0a op)=rl:=by
 have hlt:op<88:=by omega
 have hge:1≤op:=by omega
 have hfm:=x6s op (by omega) (by omega)
 obtain ⟨r1,r2,r3,a1,a2,a3,b1,b2,b3,i1,o1⟩:=xfF rfl hm
 have hz:x0a op≠0:=by omega
 obtain ⟨o,g,s,ho,hg,hs,hw,_,_,es⟩:=xeM op hge hlt hz
 have T:=x4t op hlt hge
 have urd:=x77 r1 (by omega)
 have ua:=x77 a1 (by omega)
 have ub:=x77 b1 (by omega)
 refine ⟨_,rfl,?_⟩
 rw [x4l]
 rcases hfm with hf | hf | hf | hf<;>rw [hf] at T r3 a3 b3 i1 o1 ⊢
 ·obtain ⟨rfl,rfl⟩:=o1 rfl
  have hb0:b=0:=b3 rfl
  subst hb0
  have hs0:s=0:=by rw [es];exact tabS op hlt hge (.inl hf)
  have hi:-2048≤imm∧imm≤2047:=by
   simp [immI,fitI] at i1
   omega
  rw [x40,xj9,show uN (0:Int)=0 from rfl,xle _ _ _ 0 _ (show Sub _ 28799 from T),hw,urd,ua]
  simp only [xdb,prd,pA,pB,immW,pAq,pRl,fRd,fA,fB,fO,F,S,uN,Nat.reducePow,Int.reduceEq,if_true,if_false,Bool.or_true,Bool.true_or,Bool.or_false,Bool.false_or,Bool.false_and,Int.reduceBEq,Nat.pow_zero,Nat.div_one,Nat.mul_one]
  generalize hm':(imm%18446744073709551616).toNat%4096=m
  generalize hrd:rd.toNat=R
  generalize haa:a.toNat=A
  refine ⟨by omega,by omega,by omega,by omega,by simp,?_,by simp,by simp⟩
  split<;>omega
 ·obtain ⟨rfl,rfl⟩:=o1 rfl
  have hi:imm=0:=by simpa [immI] using i1
  subst hi
  rw [x40,xj8,xld _ _ _ _ 0 (show Sub _ 4261441663 from T),hw,urd,ua,ub]
  simp only [xdb,prd,pA,pB,immW,pAq,pRl,fRd,fA,fB,fO,F,Nat.reducePow,Int.reduceEq,if_true,if_false,Bool.or_true,Bool.true_or,Bool.or_false,Bool.false_or,Bool.false_and,Int.reduceBEq,Nat.pow_zero,Nat.div_one,Nat.mul_one,false_or,or_false]
  refine ⟨by omega,by omega,by omega,by omega,by omega,by simp,by simp,by simp⟩
 ·obtain ⟨rfl,rfl⟩:=o1 rfl
  have hb0:b=0:=b3 rfl
  subst hb0
  have hs2:s%2=0:=by rw [es];exact tab2 op hlt hge hf
  have hi:0≤imm∧imm≤63:=by simpa [immI] using i1
  have ui:=x77 hi.1 (by omega)
  rw [x40,xj7,show uN (0:Int)=0 from rfl,xlc _ _ _ 0 _ (show Sub _ 4227887231 from T),hw,urd,ua,ui]
  simp only [xdb,prd,pA,pB,immW,pAq,pRl,fRd,fA,fB,fO,F,Nat.reducePow,Int.reduceEq,if_true,if_false,Bool.or_true,Bool.true_or,Bool.or_false,Bool.false_or,Bool.false_and,Int.reduceBEq,Nat.pow_zero,Nat.div_one,Nat.mul_one,false_or,or_false]
  refine ⟨by omega,by omega,by omega,by omega,by simp,by omega,by simp,by simp⟩
 ·obtain ⟨rfl,rfl⟩:=o1 rfl
  have hb0:b=0:=b3 rfl
  subst hb0
  have hi:0≤imm∧imm≤31:=by simpa [immI] using i1
  have ui:=x77 hi.1 (by omega)
  rw [x40,xj6,show uN (0:Int)=0 from rfl,xlb _ _ _ 0 _ (show Sub _ 4261441663 from T),hw,urd,ua,ui]
  simp only [xdb,prd,pA,pB,immW,pAq,pRl,fRd,fA,fB,fO,F,Nat.reducePow,Int.reduceEq,if_true,if_false,Bool.or_true,Bool.true_or,Bool.or_false,Bool.false_or,Bool.false_and,Int.reduceBEq,Nat.pow_zero,Nat.div_one,Nat.mul_one,false_or,or_false]
  refine ⟨by omega,by omega,by omega,by omega,by simp,by omega,by simp,by simp⟩
theorem xgs (i:Ins) (h1:22≤i.op) (h2:i.op≤62) (hm:i.may=true):encI i<2 ^ 32∧insP (encI i)=i:=by
 obtain ⟨op,rd,a,b,imm,aq,rl⟩:=i
 simp only at h1 h2
 obtain ⟨n,rfl⟩:∃ n:Nat,op=n:=⟨op.toNat,by omega⟩
 obtain ⟨w,hw,hl,hlow,e1,e2,e3,e4,e5,e6⟩:=xmL n rd a b imm aq rl (by omega) (by omega) hm
 have hE:encI ⟨n,rd,a,b,imm,aq,rl⟩=w:=by
  unfold encI
  simp only [Int.toNat_natCast]
  exact hw
 rw [hE]
 refine ⟨hl,?_⟩
 have ok:okR w n:=by
  refine ⟨hlow,?_,?_⟩
  ·rw [e1,e2,e3,e4,e5,e6];exact hm
  ·rw [e1,e2,e3,e4,e5,e6];exact hw
 have hd:=xid w hl n (by omega) (by omega) ok
 rw [xdg] at hd
 simp only [x9l,e1,e2,e3,e4,e5,e6] at hd
 generalize insP w=j at hd
 obtain ⟨o',r',a',b',i',q',l'⟩:=j
 simp only [V.agg.injEq,List.cons.injEq,V.sc.injEq,Value.int.injEq,Value.bool.injEq,true_and,and_true] at hd
 obtain ⟨rfl,rfl,rfl,rfl,rfl,rfl,rfl⟩:=hd
 rfl
end
section
def hlfI (n:Int):Int:=IntKind.i32.wrap n
theorem xfV (n:Int):-2147483648≤hlfI n∧hlfI n≤2147483647:=by
 simp only [hlfI,IntKind.wrap,IntKind.bits,IntKind.signed,Bool.true_and,decide_eq_true_eq,ge_iff_le,Int.reducePow,Nat.reduceSub]
 split<;>omega
def andI (a b:Int):Int:=IntKind.i64.wrap (BitVec.ofInt IntKind.i64.bits a &&& BitVec.ofInt IntKind.i64.bits b).toNat
def orI (a b:Int):Int:=IntKind.i64.wrap (BitVec.ofInt IntKind.i64.bits a ||| BitVec.ofInt IntKind.i64.bits b).toNat
def xorI (a b:Int):Int:=IntKind.i64.wrap (BitVec.ofInt IntKind.i64.bits a ^^^ BitVec.ofInt IntKind.i64.bits b).toNat
abbrev w64 (n:Int):Int:=IntKind.i64.wrap n
def xaG (op a b:Int):Int :=
 if op=35∨op=22 then w64 (a+b) else if op=36 then w64 (a-b)
 else if op=37∨op=28 then w64 (a*2 ^ (uN b%64)) else if op=38∨op=23 then (if a<b then 1 else 0)
 else if op=39∨op=24 then (if uN a<uN b then 1 else 0) else if op=40∨op=25 then xorI a b
 else if op=41∨op=29 then w64 ((uN a/2 ^ (uN b%64):Nat)) else if op=42∨op=30 then a.fdiv (2 ^ (uN b%64))
 else if op=43∨op=26 then orI a b else andI a b
def xaA (op a b:Int):Int :=
 if op=45∨op=31 then hlfI (w64 (a+b)) else if op=46 then hlfI (w64 (a-b))
 else if op=47∨op=32 then hlfI (w64 (a*2 ^ (uN b%32))) else if op=48∨op=33 then hlfI ((uN a%4294967296/2 ^ (uN b%32):Nat))
 else (hlfI a).fdiv (2 ^ (uN b%32))
theorem xcm (u n:Nat) (hu:u<2 ^ 64) (hn:n≤63):IntKind.u64.wrap (BitVec.ofInt IntKind.u64.bits (u:Int) &&& BitVec.ofInt IntKind.u64.bits ((2 ^ n-1:Nat):Int)).toNat=((u%2 ^ n:Nat):Int):=by
 have h1:(BitVec.ofInt IntKind.u64.bits (u:Int)).toNat=u:=by
  simp [IntKind.bits];omega
 have hp:=x53 n 63 hn
 have hq:=Nat.two_pow_pos n
 have h2:(BitVec.ofInt IntKind.u64.bits ((2 ^ n-1:Nat):Int)).toNat=2 ^ n-1:=by
  simp only [IntKind.bits,BitVec.toNat_ofInt]
  omega
 rw [BitVec.toNat_and,h1,h2,Nat.and_two_pow_sub_one_eq_mod]
 have:=Nat.mod_lt u hq
 exact x4m (by omega) (by omega)
theorem xn1 (b:Int):IntKind.u64.wrap (BitVec.ofInt IntKind.u64.bits ((uN b:Nat):Int) &&& BitVec.ofInt IntKind.u64.bits 63).toNat=((uN b%64:Nat):Int):=xcm (uN b) 6 (x1u b) (by decide)
theorem xn2 (b:Int):IntKind.u64.wrap (BitVec.ofInt IntKind.u64.bits ((uN b:Nat):Int) &&& BitVec.ofInt IntKind.u64.bits 31).toNat=((uN b%32:Nat):Int):=xcm (uN b) 5 (x1u b) (by decide)
theorem xmP (b:Int):uN (((BitVec.ofInt IntKind.u64.bits ((uN b:Nat):Int) &&& BitVec.ofInt IntKind.u64.bits 63).toNat:Nat):Int)=uN b%64:=by
 have h:=xn1 b
 rw [x0d] at h
 omega
theorem xmQ (b:Int):uN (((BitVec.ofInt IntKind.u64.bits ((uN b:Nat):Int) &&& BitVec.ofInt IntKind.u64.bits 31).toNat:Nat):Int)=uN b%32:=by
 have h:=xn2 b
 rw [x0d] at h
 omega
theorem xlv (n:Nat):min (n%64) IntKind.i64.bits=n%64:=by have:IntKind.i64.bits=64:=rfl;omega
theorem min_a' (n:Nat):min (n%64) IntKind.u64.bits=n%64:=by have:IntKind.u64.bits=64:=rfl;omega
theorem xlu (n:Nat):min (n%32) IntKind.i64.bits=n%32:=by have:IntKind.i64.bits=64:=rfl;omega
theorem xlt (n:Nat):min (n%32) IntKind.u32.bits=n%32:=by have:IntKind.u32.bits=32:=rfl;omega
theorem x84 (a b:Int):IntKind.i64.wrap (BitVec.ofInt IntKind.i64.bits a &&& BitVec.ofInt IntKind.i64.bits b).toNat=andI a b:=rfl
theorem f_or (a b:Int):IntKind.i64.wrap (BitVec.ofInt IntKind.i64.bits a ||| BitVec.ofInt IntKind.i64.bits b).toNat=orI a b:=rfl
theorem x83 (a b:Int):IntKind.i64.wrap (BitVec.ofInt IntKind.i64.bits a ^^^ BitVec.ofInt IntKind.i64.bits b).toNat=xorI a b:=rfl
theorem xaa (n:Nat):((n:Int)<0)=False:=by simp
theorem xcw (a:Int):IntKind.u32.wrap a=((uN a%4294967296:Nat):Int):=by
 simp only [IntKind.wrap,IntKind.bits,IntKind.signed,uN]
 simp
 omega
theorem xgN {base:Nat} (n:Int) (h:Heap):WpF S0 base xe7 [.sc (.int .i64 n)] h fun v h'=>v=.sc (.int .i64 (hlfI n))∧h'=h:=by
 have e:IntKind.i64.wrap (IntKind.i32.wrap n)=hlfI n:=by
  have:=xfV n
  unfold hlfI at *
  exact x08 (by omega) (by omega)
 first | refine zu (A:=x4g) rfl rfl rfl rfl ?_ | refine zB (A:=x4g) rfl rfl rfl rfl ?_
 simp only [x4g,oD,cD,τ,φ,ι]
 simp only [SQ,SQB,zm,AOp.opds,step,Opd.get,zk,bin,zzc,IntKind.signed,zi,zj,zl,zb,unary,ze,zd,za,zo,zr,zh,zf,zg,zp,Cp.isFull,isNil,zq,simprocAttr,SQX,V.cells,e]
theorem xlM {base:Nat} (b:Bool) (h:Heap):WpF S0 base xe8 [.sc (.bool b)] h fun v h'=>v=.sc (.int .i64 (if b then 1 else 0))∧h'=h:=by
 first | refine zu (A:=x4h) rfl rfl rfl rfl ?_ | refine zB (A:=x4h) rfl rfl rfl rfl ?_
 simp only [x4h,oD,cD,τ,φ,ι]
 cases b<;>simp only [SQ,SQB,zm,AOp.opds,step,Opd.get,zk,bin,zzc,IntKind.signed,zi,zj,zl,zb,unary,ze,zd,za,zo,zr,zh,zf,zg,zp,Cp.isFull,isNil,zq,simprocAttr,SQX,V.cells]
theorem xjB {base:Nat} (op a b:Int) (h:Heap):WpF S0 base xc2 [.sc (.int .i64 op),.sc (.int .i64 a),.sc (.int .i64 b)] h fun v h'=>v=.sc (.int .i64 (xaG op a b))∧h'=h:=by
 have hf:=fun base b h=>xlM (base:=base) b h
 first | refine zu (A:=x3D) rfl rfl rfl rfl ?_ | refine zB (A:=x3D) rfl rfl rfl rfl ?_
 simp only [x3D,oD,cD,τ,φ,ι]
 (simp only [SQ,zm,AOp.opds,step,Opd.get,zk,bin,zzc,IntKind.signed,zi,zj,zl,zb,unary,ze,zd,za,zo,zr,zh,zf,zg,zp,Cp.isFull,isNil,zq,simprocAttr,SQX,V.cells,x0d,xmP,x84,f_or,x83,xlv,min_a',xaa,x6Z,zn (hf _ _ _),Nat.le_refl];repeat' ((first | refine x0G ?_ ?_ | refine x0u ?_ ?_ | refine x0v ?_ ?_)<;>(intro hb;simp only [SQ,zm,AOp.opds,step,Opd.get,zk,bin,zzc,IntKind.signed,zi,zj,zl,zb,unary,ze,zd,za,zo,zr,zh,zf,zg,zp,Cp.isFull,isNil,zq,simprocAttr,SQX,V.cells,hb,x0d,xmP,x84,f_or,x83,xlv,min_a',xaa,x6Z,zn (hf _ _ _),Nat.le_refl])))
 all_goals simp_all [xaG]
theorem xjt {base:Nat} (op a b:Int) (h:Heap):WpF S0 base xc1 [.sc (.int .i64 op),.sc (.int .i64 a),.sc (.int .i64 b)] h fun v h'=>v=.sc (.int .i64 (xaA op a b))∧h'=h:=by
 have hf:=fun base b h=>xgN (base:=base) b h
 have e1:∀ n:Nat,IntKind.i64.wrap ((uN a%4294967296/2 ^ n:Nat):Int)=((uN a%4294967296/2 ^ n:Nat):Int):=fun n=>by
  have h1:=Nat.div_le_self (uN a%4294967296) (2 ^ n)
  have h2:uN a%4294967296<4294967296:=Nat.mod_lt _ (by decide)
  generalize uN a%4294967296/2 ^ n=q at *
  exact x08 (by omega) (by omega)
 first | refine zu (A:=x3C) rfl rfl rfl rfl ?_ | refine zB (A:=x3C) rfl rfl rfl rfl ?_
 simp only [x3C,oD,cD,τ,φ,ι]
 (simp only [SQ,zm,AOp.opds,step,Opd.get,zk,bin,zzc,IntKind.signed,zi,zj,zl,zb,unary,ze,zd,za,zo,zr,zh,zf,zg,zp,Cp.isFull,isNil,zq,simprocAttr,SQX,V.cells,x0d,xcw,xmQ,xlu,xlt,xaa,x6Z,e1,zn (hf _ _ _),Nat.le_refl];repeat' ((first | refine x0G ?_ ?_ | refine x0u ?_ ?_ | refine x0v ?_ ?_)<;>(intro hb;simp only [SQ,zm,AOp.opds,step,Opd.get,zk,bin,zzc,IntKind.signed,zi,zj,zl,zb,unary,ze,zd,za,zo,zr,zh,zf,zg,zp,Cp.isFull,isNil,zq,simprocAttr,SQX,V.cells,hb,x0d,xcw,xmQ,xlu,xlt,xaa,x6Z,e1,zn (hf _ _ _),Nat.le_refl])))
 all_goals simp_all [xaA]
end
section
def quoI (a b:Int):Int:=if b=0 then -1 else if b = -1 then w64 (-a) else w64 (a.tdiv b)
def remI (a b:Int):Int:=if b=0 then a else if b = -1 then 0 else a.tmod b
def quoU (a b:Nat):Int:=if b=0 then -1 else w64 ((a/b:Nat))
def remU (a b:Nat):Int:=if b=0 then w64 (a:Nat) else w64 ((a%b:Nat))
theorem xiK {base:Nat} (a b:Int) (h:Heap):WpF S0 base x9b [.sc (.int .i64 a),.sc (.int .i64 b)] h fun v h'=>v=.tup [.sc (.int .i64 (quoI a b)),.sc (.int .i64 (remI a b))]∧h'=h:=by
 first | refine zu (A:=x2y) rfl rfl rfl rfl ?_ | refine zB (A:=x2y) rfl rfl rfl rfl ?_
 simp only [x2y,oD,cD,τ,φ,ι]
 by_cases h0:b=0
 ·subst h0
  simp only [SQ,SQB,zm,AOp.opds,step,Opd.get,zk,bin,zzc,IntKind.signed,zi,zj,zl,zb,unary,ze,zd,za,zo,zr,zh,zf,zg,zp,Cp.isFull,isNil,zq,simprocAttr,SQX,V.cells,Nat.le_refl,quoI,remI]
 ·by_cases h1:b = -1
  ·subst h1
   simp only [SQ,SQB,zm,AOp.opds,step,Opd.get,zk,bin,zzc,IntKind.signed,zi,zj,zl,zb,unary,ze,zd,za,zo,zr,zh,zf,zg,zp,Cp.isFull,isNil,zq,simprocAttr,SQX,V.cells,Nat.le_refl,quoI,remI,zo,Int.zero_sub]
  ·simp only [SQ,SQB,zm,AOp.opds,step,Opd.get,zk,bin,zzc,IntKind.signed,zi,zj,zl,zb,unary,ze,zd,za,zo,zr,zh,zf,zg,zp,Cp.isFull,isNil,zq,simprocAttr,SQX,V.cells,h0,h1,Nat.le_refl,quoI,remI]
theorem x99 (a b:Nat):(a:Int).tdiv (b:Int)=((a/b:Nat):Int):=by
 rw [Int.tdiv_eq_ediv_of_nonneg (Int.natCast_nonneg _)];simp
theorem x1s (a b:Nat):(a:Int).tmod (b:Int)=((a%b:Nat):Int):=by
 rw [Int.tmod_eq_emod_of_nonneg (Int.natCast_nonneg _)];simp
theorem xff {base:Nat} (a b:Nat) (ha:a<2 ^ 64) (h:Heap):WpF S0 base x8K [U64 a,U64 b] h fun v h'=>v=.tup [.sc (.int .i64 (quoU a b)),.sc (.int .i64 (remU a b))]∧h'=h:=by
 have hd:=Nat.div_le_self a b
 have hm:=Nat.mod_le a b
 have e1:uN ((a/b:Nat):Int)=a/b:=x4v (by omega)
 have e2:uN ((a%b:Nat):Int)=a%b:=x4v (by omega)
 have e0:((b:Int)=0)=(b=0):=by simp
 first | refine zu (A:=x2b) rfl rfl rfl rfl ?_ | refine zB (A:=x2b) rfl rfl rfl rfl ?_
 simp only [x2b,oD,cD,τ,φ,ι]
 by_cases h0:b=0
 ·subst h0
  simp only [SQ,SQB,zm,AOp.opds,step,Opd.get,zk,bin,zzc,IntKind.signed,zi,zj,zl,zb,unary,ze,zd,za,zo,zr,zh,zf,zg,zp,Cp.isFull,isNil,zq,simprocAttr,SQX,V.cells,Nat.le_refl,quoU,remU,Int.natCast_zero]
 ·simp only [SQ,SQB,zm,AOp.opds,step,Opd.get,zk,bin,zzc,IntKind.signed,zi,zj,zl,zb,unary,ze,zd,za,zo,zr,zh,zf,zg,zp,Cp.isFull,isNil,zq,simprocAttr,SQX,V.cells,x99,x1s,x0d,e1,e2,e0,h0,quoU,remU,Nat.le_refl]
def mhi (x y:Nat):Nat:=x*y/18446744073709551616
theorem xiP (x y:Nat) (hx:x<2 ^ 64) (hy:y<2 ^ 64) :
  x/4294967296*(y/4294967296)+(x/4294967296*(y%4294967296)+x%4294967296*(y%4294967296)/4294967296)/4294967296+((x/4294967296*(y%4294967296)+x%4294967296*(y%4294967296)/4294967296)%4294967296+x%4294967296*(y/4294967296))/4294967296=mhi x y∧mhi x y<2 ^ 64 ∧
  x/4294967296*(y%4294967296)+x%4294967296*(y%4294967296)/4294967296<2 ^ 64∧x%4294967296*(y%4294967296)<2 ^ 64∧(x/4294967296*(y%4294967296)+x%4294967296*(y%4294967296)/4294967296)%4294967296+x%4294967296*(y/4294967296)<2 ^ 64:=by
 have ex:x=4294967296*(x/4294967296)+x%4294967296:=(Nat.div_add_mod x 4294967296).symm
 have ey:y=4294967296*(y/4294967296)+y%4294967296:=(Nat.div_add_mod y 4294967296).symm
 have hx1:x/4294967296≤4294967295:=by omega
 have hy1:y/4294967296≤4294967295:=by omega
 have hx0:x%4294967296≤4294967295:=by omega
 have hy0:y%4294967296≤4294967295:=by omega
 have hp:x*y=18446744073709551616*(x/4294967296*(y/4294967296))+4294967296*(x/4294967296*(y%4294967296))+4294967296*(x%4294967296*(y/4294967296))+x%4294967296*(y%4294967296):=by
  conv=>lhs;rw [ex,ey]
  rw [Nat.mul_add,Nat.add_mul,Nat.add_mul]
  generalize x/4294967296=a
  generalize x%4294967296=b
  generalize y/4294967296=c
  generalize y%4294967296=d
  have e1:4294967296*a*(4294967296*c)=18446744073709551616*(a*c):=by
   rw [Nat.mul_assoc,Nat.mul_left_comm a,← Nat.mul_assoc]
  have e2:b*(4294967296*c)=4294967296*(b*c):=Nat.mul_left_comm _ _ _
  have e3:4294967296*a*d=4294967296*(a*d):=Nat.mul_assoc _ _ _
  omega
 have b1:=Nat.mul_le_mul hx1 hy1
 have b2:=Nat.mul_le_mul hx1 hy0
 have b3:=Nat.mul_le_mul hx0 hy1
 have b4:=Nat.mul_le_mul hx0 hy0
 unfold mhi
 rw [hp]
 generalize x/4294967296*(y/4294967296)=p at *
 generalize x/4294967296*(y%4294967296)=q at *
 generalize x%4294967296*(y/4294967296)=r at *
 generalize x%4294967296*(y%4294967296)=s at *
 omega
theorem xoC (x:Nat) (hx:x<2 ^ 64):uN (((BitVec.ofInt IntKind.u64.bits (x:Int) &&& BitVec.ofInt IntKind.u64.bits 4294967295).toNat:Nat):Int)=x%4294967296:=by
 have h:=xcm x 32 hx (by decide)
 rw [x0d] at h
 have e:((2 ^ 32-1:Nat):Int)=4294967295:=by decide
 rw [e] at h
 omega
theorem xjP {base:Nat} (x y:Nat) (hx:x<2 ^ 64) (hy:y<2 ^ 64) (h:Heap):WpF S0 base x7A [U64 x,U64 y] h fun v h'=>v=.tup [U64 (mhi x y),U64 (x*y%18446744073709551616)]∧h'=h:=by
 obtain ⟨m1,m2,m3,m4,m5⟩:=xiP x y hx hy
 have sh:∀ n:Nat,(n:Int).fdiv (2 ^ min 32 IntKind.u64.bits)=((n/4294967296:Nat):Int):=fun n=>x6Z n 32
 have sh2:∀ n:Nat,(n:Int).fdiv 4294967296=((n/4294967296:Nat):Int):=fun n=>x6Z n 32
 have uu:∀ n:Nat,uN (n:Int)=n%18446744073709551616:=fun n=>by unfold uN;omega
 have ul:∀ n:Nat,uN (((BitVec.ofInt IntKind.u64.bits (n:Int) &&& BitVec.ofInt IntKind.u64.bits 4294967295).toNat:Nat):Int)=n%18446744073709551616%4294967296:=fun n=>by
  have:BitVec.ofInt IntKind.u64.bits (n:Int)=BitVec.ofInt IntKind.u64.bits ((n%18446744073709551616:Nat):Int):=by
   apply BitVec.eq_of_toNat_eq
   simp [IntKind.bits]
   omega
  rw [this,xoC _ (Nat.mod_lt _ (by decide))]
 first | refine zu (A:=x1H) rfl rfl rfl rfl ?_ | refine zB (A:=x1H) rfl rfl rfl rfl ?_
 simp only [x1H,oD,cD,τ,φ,ι]
 simp only [SQ,SQB,zm,AOp.opds,step,Opd.get,zk,bin,zzc,IntKind.signed,zi,zj,zl,zb,unary,ze,zd,za,zo,zr,zh,zf,zg,zp,Cp.isFull,isNil,zq,simprocAttr,SQX,V.cells,x0d,sh,sh2,ul,uu,← Int.natCast_mul,← Int.natCast_add,Nat.mod_eq_of_lt hx,Nat.mod_eq_of_lt hy,Nat.le_refl]
 simp only [V.tup.injEq,List.cons.injEq,V.sc.injEq,Value.int.injEq,and_true,true_and,Int.natCast_inj]
 have b1:=Nat.mul_le_mul (show x/4294967296≤4294967295 by omega) (show y/4294967296≤4294967295 by omega)
 have b2:=Nat.mul_le_mul (show x/4294967296≤4294967295 by omega) (show y%4294967296≤4294967295 by omega)
 have b3:=Nat.mul_le_mul (show x%4294967296≤4294967295 by omega) (show y/4294967296≤4294967295 by omega)
 have b4:=Nat.mul_le_mul (show x%4294967296≤4294967295 by omega) (show y%4294967296≤4294967295 by omega)
 generalize mhi x y=R at *
 generalize x/4294967296*(y/4294967296)=p at *
 generalize x/4294967296*(y%4294967296)=q at *
 generalize x%4294967296*(y/4294967296)=r at *
 generalize x%4294967296*(y%4294967296)=s at *
 clear sh sh2 uu ul
 omega
def x5q (a b:Int) (sa sb:Bool):Int :=
 let o:=w64 (mhi (uN a) (uN b):Nat)
 let o:=if sa=true∧a<0 then w64 (o-b) else o
 if sb=true∧b<0 then w64 (o-a) else o
theorem xlE {base:Nat} (a b:Int) (sa sb:Bool) (h:Heap):WpF S0 base xe6 [.sc (.int .i64 a),.sc (.int .i64 b),.sc (.bool sa),.sc (.bool sb)] h fun v h'=>v=.sc (.int .i64 (x5q a b sa sb))∧h'=h:=by
 have hm:=fun base h=>xjP (base:=base) (uN a) (uN b) (x1u a) (x1u b) h
 first | refine zu (A:=x4f) rfl rfl rfl rfl ?_ | refine zB (A:=x4f) rfl rfl rfl rfl ?_
 simp only [x4f,oD,cD,τ,φ,ι]
 cases sa<;>cases sb<;>by_cases h1:a<0<;>by_cases h2:b<0<;>simp only [SQ,SQB,zm,AOp.opds,step,Opd.get,zk,bin,zzc,IntKind.signed,zi,zj,zl,zb,unary,ze,zd,za,zo,zr,zh,zf,zg,zp,Cp.isFull,isNil,zq,simprocAttr,SQX,V.cells,x0d,zn (hm _ _),h1,h2,x5q,Nat.le_refl]
def xcz (op a b:Int):Int :=
 if op=50 then w64 (a*b) else if op=51 then x5q a b true true else if op=52 then x5q a b true false else if op=53 then x5q a b false false
 else if op=54 then quoI a b else if op=55 then quoU (uN a) (uN b) else if op=56 then remI a b else remU (uN a) (uN b)
def x5B (op a b:Int):Int :=
 if op=58 then hlfI (w64 (a*b)) else if op=59 then hlfI (quoI (hlfI a) (hlfI b)) else if op=60 then hlfI (quoU (uN a%4294967296) (uN b%4294967296))
 else if op=61 then hlfI (remI (hlfI a) (hlfI b)) else hlfI (remU (uN a%4294967296) (uN b%4294967296))
def x1X (op a b:Int):Int :=
 if op≤30 then xaG op a b else if op≤34 then xaA op a b else if op≤44 then xaG op a b else if op≤49 then xaA op a b else if op≤57 then xcz op a b else x5B op a b
theorem xjp {base:Nat} (op a b:Int) (h:Heap):WpF S0 base xc0 [.sc (.int .i64 op),.sc (.int .i64 a),.sc (.int .i64 b)] h fun v h'=>v=.sc (.int .i64 (xcz op a b))∧h'=h:=by
 have c1:=fun base h=>xiK (base:=base) a b h
 have c2:=fun base h=>xff (base:=base) (uN a) (uN b) (x1u a) h
 have c3:=fun base sa sb h=>xlE (base:=base) a b sa sb h
 first | refine zu (A:=x3B) rfl rfl rfl rfl ?_ | refine zB (A:=x3B) rfl rfl rfl rfl ?_
 simp only [x3B,oD,cD,τ,φ,ι]
 (simp only [SQ,zm,AOp.opds,step,Opd.get,zk,bin,zzc,IntKind.signed,zi,zj,zl,zb,unary,ze,zd,za,zo,zr,zh,zf,zg,zp,Cp.isFull,isNil,zq,simprocAttr,SQX,V.cells,x0d,zn (c1 _ _),zn (c2 _ _),zn (c3 _ _ _ _),Nat.le_refl];repeat' ((first | refine x0G ?_ ?_ | refine x0u ?_ ?_ | refine x0v ?_ ?_)<;>(intro hb;simp only [SQ,zm,AOp.opds,step,Opd.get,zk,bin,zzc,IntKind.signed,zi,zj,zl,zb,unary,ze,zd,za,zo,zr,zh,zf,zg,zp,Cp.isFull,isNil,zq,simprocAttr,SQX,V.cells,hb,x0d,zn (c1 _ _),zn (c2 _ _),zn (c3 _ _ _ _),Nat.le_refl])))
 all_goals simp_all [xcz]
theorem xaz {base:Nat} (op a b:Int) (h:Heap):WpF S0 base x82 [.sc (.int .i64 op),.sc (.int .i64 a),.sc (.int .i64 b)] h fun v h'=>v=.sc (.int .i64 (x5B op a b))∧h'=h:=by
 have c0:=fun base n h=>xgN (base:=base) n h
 have c1:=fun base h=>xiK (base:=base) (hlfI a) (hlfI b) h
 have c2:=fun base h=>xff (base:=base) (uN a%4294967296) (uN b%4294967296) (by omega) h
 have u1:∀ n:Nat,uN ((n%4294967296:Nat):Int)=n%4294967296:=fun n=>x4v (by omega)
 first | refine zu (A:=x1P) rfl rfl rfl rfl ?_ | refine zB (A:=x1P) rfl rfl rfl rfl ?_
 simp only [x1P,oD,cD,τ,φ,ι]
 (simp only [SQ,zm,AOp.opds,step,Opd.get,zk,bin,zzc,IntKind.signed,zi,zj,zl,zb,unary,ze,zd,za,zo,zr,zh,zf,zg,zp,Cp.isFull,isNil,zq,simprocAttr,SQX,V.cells,x0d,xcw,u1,zn (c0 _ _ _),zn (c1 _ _),zn (c2 _ _),Nat.le_refl];repeat' ((first | refine x0G ?_ ?_ | refine x0u ?_ ?_ | refine x0v ?_ ?_)<;>(intro hb;simp only [SQ,zm,AOp.opds,step,Opd.get,zk,bin,zzc,IntKind.signed,zi,zj,zl,zb,unary,ze,zd,za,zo,zr,zh,zf,zg,zp,Cp.isFull,isNil,zq,simprocAttr,SQX,V.cells,hb,x0d,xcw,u1,zn (c0 _ _ _),zn (c1 _ _),zn (c2 _ _),Nat.le_refl])))
 all_goals simp_all [x5B]
theorem xmv {base:Nat} (op a b:Int) (h1:22≤op) (h2:op≤62) (h:Heap):WpF S0 base xe9 [.sc (.int .i64 op),.sc (.int .i64 a),.sc (.int .i64 b)] h fun v h'=>v=.tup [.sc (.int .i64 (x1X op a b)),.bool true]∧h'=h:=by
 have c0:=fun base h=>xjB (base:=base) op a b h
 have c1:=fun base h=>xjt (base:=base) op a b h
 have c2:=fun base h=>xjp (base:=base) op a b h
 have c3:=fun base h=>xaz (base:=base) op a b h
 first | refine zu (A:=x4i) rfl rfl rfl rfl ?_ | refine zB (A:=x4i) rfl rfl rfl rfl ?_
 simp only [x4i,oD,cD,τ,φ,ι]
 have g1:(op<22)=False:=by simp;omega
 have g2:(62<op)=False:=by simp;omega
 (simp only [SQ,zm,AOp.opds,step,Opd.get,zk,bin,zzc,IntKind.signed,zi,zj,zl,zb,unary,ze,zd,za,zo,zr,zh,zf,zg,zp,Cp.isFull,isNil,zq,simprocAttr,SQX,V.cells,g1,g2,zn (c0 _ _),zn (c1 _ _),zn (c2 _ _),zn (c3 _ _),Nat.le_refl];repeat' ((first | refine x0G ?_ ?_ | refine x0u ?_ ?_ | refine x0v ?_ ?_)<;>(intro hb;simp only [SQ,zm,AOp.opds,step,Opd.get,zk,bin,zzc,IntKind.signed,zi,zj,zl,zb,unary,ze,zd,za,zo,zr,zh,zf,zg,zp,Cp.isFull,isNil,zq,simprocAttr,SQX,V.cells,hb,g1,g2,zn (c0 _ _),zn (c1 _ _),zn (c2 _ _),zn (c3 _ _),Nat.le_refl])))
 all_goals (simp_all [x1X];try ((repeat' split)<;>first | rfl | (intros;exfalso;omega)))
end
section
def numN (f:Nat→Nat):Nat→Nat
 | 0=>0
 | k+1=>numN f k+f k*2 ^ k
theorem xa9 {f:Nat→Nat} (hf:∀ i,f i<2):∀ k,numN f k<2 ^ k
 | 0=>by simp [numN]
 | k+1=>by
  have h1:=xa9 hf k
  have h2:=hf k
  have h3:f k*2 ^ k≤1*2 ^ k:=Nat.mul_le_mul_right _ (by omega)
  simp only [numN,Nat.pow_succ]
  omega
theorem x8h {f:Nat→Nat} (hf:∀ i,f i<2):∀ k i,(numN f k).testBit i=(decide (i<k)&&decide (f i=1))
 | 0,i=>by simp [numN]
 | k+1,i=>by
  have h1:=xa9 hf k
  have h2:=hf k
  have ih:=x8h hf k i
  simp only [numN]
  rw [Nat.add_comm,Nat.mul_comm,Nat.testBit_two_pow_mul_add _ h1,ih]
  by_cases hk:i<k
  ·simp [hk,Nat.lt_succ_of_lt hk]
  ·rw [if_neg hk]
   rcases Nat.eq_or_lt_of_le (Nat.le_of_not_lt hk) with e | hlt
   ·subst e
    rcases (by omega:f k=0∨f k=1) with e | e<;>simp [e]
   ·have:¬ i<k+1:=by omega
    rw [show decide (i<k+1)=false by simp [this],Bool.false_and]
    obtain ⟨d,rfl⟩:∃ d,i=k+(d+1):=⟨i-k-1,by omega⟩
    rw [show k+(d+1)-k=d+1 by omega]
    rcases (by omega:f k=0∨f k=1) with e | e<;>simp [e,Nat.testBit_succ]
theorem xnz {base:Nat} (f:Nat→Nat) (hf:∀ i,f i<2) (h:Heap) (b e:Nat) (t:TypeId) (hg:h[b]?=some (.row t 1 e (vrow 64 fun i=>.int .i64 (f i)))):WpF S0 base x6z [.hsl b e 0 64] h fun v h'=>v=.sc (.int .i64 (w64 (numN f 64:Nat)))∧h'=h:=by
 first | refine zu (A:=x1k) rfl rfl rfl rfl ?_ | refine zB (A:=x1k) rfl rfl rfl rfl ?_
 simp only [x1k,oD,cD,τ,φ,ι]
 simp only [SQ,SQB,zm,AOp.opds,step,Opd.get,zk,bin,zzc,IntKind.signed,zi,zj,zl,zb,unary,ze,zd,za,zo,zr,zh,zf,zg,zp,Cp.isFull,isNil,zq,simprocAttr,-List.reduceReplicate,]
 refine x1y (fun k en h'=>∃ j:Nat,k=64-j∧j≤64∧en 4=V.int j∧en 3=U64 (numN f j)∧en 0=.hsl b e 0 64∧h'=h) 64 ⟨0,rfl,by omega,rfl,rfl,rfl,rfl⟩ ?_
 rintro k en h' ⟨j,rfl,hj,e4,e3,e0,rfl⟩
 have hl:=xa9 hf 64
 by_cases hlt:j<64
 ·have hp:=fun base h=>xa2 (base:=base) j h hlt
  have h1:=xa9 hf (j+1)
  have h4:=x53 (j+1) 64 (by omega)
  have h2:=hf j
  have q1:zi h' 1 j (.hsl b e 0 64)=some (.rptr b e j 0):=x5I hg hlt (by rw [xcv];omega)
  have q2:zl h' none (.rptr b e j 0)=some (V.int (f j)):=by
   rw [x5R hg (x75 hlt) (by simp)]
   rfl
  have q3:uN ((f j:Nat):Int)=f j:=x4v (by omega)
  have q4:f j*2 ^ j<2 ^ 64:=by
   simp only [numN] at h1
   omega
  have q5:uN ((f j*2 ^ j:Nat):Int)=f j*2 ^ j:=x4v q4
  have q6:uN ((numN f j+f j*2 ^ j:Nat):Int)=numN f (j+1):=by
   simp only [numN] at h1 ⊢
   exact x4v (by omega)
  have hlt':(j:Int)<64:=by omega
  simp only [SQ,SQB,zm,AOp.opds,step,Opd.get,zk,bin,zzc,IntKind.signed,zj,zb,unary,ze,zd,za,zo,zr,zh,zf,zg,zp,Cp.isFull,isNil,zq,simprocAttr,-List.reduceReplicate,e4,e3,e0,hlt',q1,q2,x0d,q3,q5,q6,← Int.natCast_mul,← Int.natCast_add,zn (hp _ _)]
  exact ⟨64-(j+1),by omega,j+1,rfl,by omega,by rw [x08 (by omega) (by omega)];rfl,rfl⟩
 ·obtain rfl:j=64:=by omega
  have hlt':¬ ((64:Nat):Int)<64:=by omega
  simp only [SQ,SQB,zm,AOp.opds,step,Opd.get,zk,bin,zzc,IntKind.signed,zi,zj,zl,zb,unary,ze,zd,za,zo,zr,zh,zf,zg,zp,Cp.isFull,isNil,zq,simprocAttr,-List.reduceReplicate,e4,e3,e0,hlt',Nat.le_refl,List.take_length]
def movF (u n width inn:Nat) (up:Bool) (i:Nat):Nat :=
 if i<width then (if up then (if n≤i then u/2 ^ (i-n)%2 else inn) else (if i+n<width then u/2 ^ (i+n)%2 else inn)) else 0
theorem xad {u n width inn:Nat} {up:Bool} (hi:inn<2) (i:Nat):movF u n width inn up i<2:=by
 unfold movF
 repeat' split
 all_goals first | omega | exact Nat.mod_lt _ (by omega)
theorem x0m {base:Nat} (a:Int) (n width inn:Nat) (up:Bool) (hn:n<64) (hw:width≤64) (hi:inn<2) (h:Heap):WpF S0 base x04 [.sc (.int .i64 a),V.int n,.bool up,V.int inn,V.int width] h fun v h'=>v=.sc (.int .i64 (w64 (numN (movF (uN a) n width inn up) 64:Nat)))∧h'=h:=by
 first | refine zu (A:=x0W) rfl rfl rfl rfl ?_ | refine zB (A:=x0W) rfl rfl rfl rfl ?_
 simp only [x0W,oD,cD,τ,φ,ι]
 have r0:List.replicate 64 [V.sc (.int .i64 0)]=vrow 64 fun i=>.int .i64 ((if i<0 then movF (uN a) n width inn up i else 0:Nat)):=by
  rw [xh9]
  rfl
 have l0:(64≤lim)=True:=by simp [lim]
 simp only [SQ,SQB,zm,AOp.opds,step,Opd.get,zk,bin,zzc,IntKind.signed,zi,zj,zl,zb,unary,ze,zd,za,zo,zr,zh,zf,zg,zp,Cp.isFull,isNil,zq,simprocAttr,-List.reduceReplicate,SQX,V.cells,r0,l0]
 refine x1y (fun k en h'=>∃ j:Nat,k=width-j∧j≤width∧en 12=V.int j∧en 11=.hsl h.length 0 0 64∧en 0=.sc (.int .i64 a)∧en 1=V.int n∧en 2=.bool up∧en 3=V.int inn∧en 4=V.int width∧h'=h++[.row 3 1 0 (vrow 64 fun i=>.int .i64 ((if i<j then movF (uN a) n width inn up i else 0:Nat)))]) width ⟨0,rfl,by omega,rfl,rfl,rfl,rfl,rfl,rfl,rfl,rfl⟩ ?_
 rintro k en h' ⟨j,rfl,hj,e12,e11,e0,e1,e2,e3,e4,rfl⟩
 by_cases hlt:j<width
 ·have hlt':(j:Int)<width:=by omega
  have ix:∀ r,zi (h++[.row 3 1 0 (vrow 64 r)]) 1 j (.hsl h.length 0 0 64)=some (.rptr h.length 0 j 0):=fun r=>x5I x3I (by omega) (by rw [xcv];omega)
  have st:∀ (r:Nat→Value) (x:Value),x0y h.length (h++[.row 3 1 0 (vrow 64 r)]) 1 (.rptr h.length 0 j 0) (.sc x)=some (h++[.row 3 1 0 (vrow 64 fun k=>if k=j then x else r k)]):=fun r x=>by
   rw [x9j x3I (x75 (by omega)) (by simp),xcG]
   rw [show [V.sc (r j)].set 0 (.sc x)=[V.sc x] from rfl,x6n]
  have fin:∀ z:Nat,z=movF (uN a) n width inn up j→vrow 64 (fun k=>if k=j then Value.int .i64 (z:Int) else if k=j then Value.int .i64 (inn:Int) else Value.int .i64 ((if k<j then movF (uN a) n width inn up k else 0:Nat):Int))=vrow 64 fun i=>Value.int .i64 ((if i<j+1 then movF (uN a) n width inn up i else 0:Nat):Int):=fun z hz=>x6o fun i _=>by
   by_cases e:i=j
   ·subst e;simp [hz]
   ·rw [if_neg e,if_neg e]
    by_cases q:i<j
    ·rw [if_pos q,if_pos (by omega)]
    ·rw [if_neg q,if_neg (by omega)]
  have fin2:inn=movF (uN a) n width inn up j→vrow 64 (fun k=>if k=j then Value.int .i64 (inn:Int) else Value.int .i64 ((if k<j then movF (uN a) n width inn up k else 0:Nat):Int))=vrow 64 fun i=>Value.int .i64 ((if i<j+1 then movF (uN a) n width inn up i else 0:Nat):Int):=fun hz=>x6o fun i _=>by
   by_cases e:i=j
   ·subst e;simp [← hz]
   ·rw [if_neg e]
    by_cases q:i<j
    ·rw [if_pos q,if_pos (by omega)]
    ·rw [if_neg q,if_neg (by omega)]
  have wa:IntKind.i64.wrap ((j:Int)+n)=((j+n:Nat):Int):=by rw [x08 (by omega) (by omega)];omega
  have w1:IntKind.i64.wrap ((j:Int)+1)=((j+1:Nat):Int):=by rw [x08 (by omega) (by omega)];omega
  cases up with
  | true =>
   by_cases hnj:n≤j
   ·have ws:IntKind.i64.wrap ((j:Int)-n)=((j-n:Nat):Int):=by rw [x08 (by omega) (by omega)];omega
    have hb:=fun base h=>x2X (base:=base) (uN a) (j-n) h (x1u a) (by omega)
    have c1:(0:Int)≤((j-n:Nat):Int):=by omega
    have c2:(((j-n:Nat):Int)<(width:Int)):=by omega
    have hz:uN a/2 ^ (j-n)%2=movF (uN a) n width inn true j:=by simp [movF,hlt,hnj]
    simp only [SQ,SQB,zm,AOp.opds,step,Opd.get,zk,bin,zzc,IntKind.signed,zj,zl,zb,unary,ze,zd,za,zo,zr,zh,zf,zg,zp,Cp.isFull,isNil,zq,simprocAttr,-List.reduceReplicate,SQX,V.cells,e12,e11,e0,e1,e2,e3,e4,hlt',wa,ws,c1,c2,ix,st,x0d,zn (hb _ _),fin _ hz,w1]
    exact ⟨width-(j+1),by omega,j+1,rfl,by omega,rfl,rfl⟩
   ·have ws:IntKind.i64.wrap ((j:Int)-n)=(j:Int)-n:=x08 (by omega) (by omega)
    have c1:¬ (0:Int)≤(j:Int)-n:=by omega
    have hz:inn=movF (uN a) n width inn true j:=by simp [movF,hlt,hnj]
    simp only [SQ,SQB,zm,AOp.opds,step,Opd.get,zk,bin,zzc,IntKind.signed,zj,zl,zb,unary,ze,zd,za,zo,zr,zh,zf,zg,zp,Cp.isFull,isNil,zq,simprocAttr,-List.reduceReplicate,SQX,V.cells,e12,e11,e0,e1,e2,e3,e4,hlt',wa,ws,c1,ix,st,x0d,fin2 hz,w1]
    exact ⟨width-(j+1),by omega,j+1,rfl,by omega,rfl,rfl⟩
  | false =>
   by_cases hnj:j+n<width
   ·have hb:=fun base h=>x2X (base:=base) (uN a) (j+n) h (x1u a) (by omega)
    have c1:(0:Int)≤((j+n:Nat):Int):=by omega
    have c2:(((j+n:Nat):Int)<(width:Int)):=by omega
    have hz:uN a/2 ^ (j+n)%2=movF (uN a) n width inn false j:=by simp [movF,hlt,hnj]
    simp only [SQ,SQB,zm,AOp.opds,step,Opd.get,zk,bin,zzc,IntKind.signed,zj,zl,zb,unary,ze,zd,za,zo,zr,zh,zf,zg,zp,Cp.isFull,isNil,zq,simprocAttr,-List.reduceReplicate,SQX,V.cells,e12,e11,e0,e1,e2,e3,e4,hlt',wa,c1,c2,ix,st,x0d,zn (hb _ _),fin _ hz,w1]
    exact ⟨width-(j+1),by omega,j+1,rfl,by omega,rfl,rfl⟩
   ·have c1:(0:Int)≤((j+n:Nat):Int):=by omega
    have c2:¬ (((j+n:Nat):Int)<(width:Int)):=by omega
    have hz:inn=movF (uN a) n width inn false j:=by simp [movF,hlt,hnj]
    simp only [SQ,SQB,zm,AOp.opds,step,Opd.get,zk,bin,zzc,IntKind.signed,zj,zl,zb,unary,ze,zd,za,zo,zr,zh,zf,zg,zp,Cp.isFull,isNil,zq,simprocAttr,-List.reduceReplicate,SQX,V.cells,e12,e11,e0,e1,e2,e3,e4,hlt',wa,c1,c2,ix,st,x0d,fin2 hz,w1]
    exact ⟨width-(j+1),by omega,j+1,rfl,by omega,rfl,rfl⟩
 ·obtain rfl:j=width:=by omega
  have hlt':¬ ((j:Nat):Int)<(j:Int):=by omega
  have fz:vrow 64 (fun i=>Value.int .i64 ((if i<j then movF (uN a) n j inn up i else 0:Nat):Int))=vrow 64 fun i=>Value.int .i64 ((movF (uN a) n j inn up i:Nat):Int):=x6o fun i _=>by
   by_cases q:i<j
   ·rw [if_pos q]
   ·rw [if_neg q];simp [movF,q]
  have hn:=fun base=>xnz (base:=base) (movF (uN a) n j inn up) (xad hi) (h++[.row 3 1 0 (vrow 64 fun i=>.int .i64 (movF (uN a) n j inn up i:Nat))]) h.length 0 _ x3I
  rw [fz]
  simp only [SQ,SQB,zm,AOp.opds,step,Opd.get,zk,bin,zzc,IntKind.signed,zi,zj,zl,zb,unary,ze,zd,za,zo,zr,zh,zf,zg,zp,Cp.isFull,isNil,zq,simprocAttr,-List.reduceReplicate,e12,e11,e4,hlt',zn (hn _),xeY]
end
section
def dig (u i:Nat):Nat:=u/65536 ^ i%65536
def sumB (s:Nat→Nat):Nat→Nat
 | 0=>0
 | n+1=>sumB s n+s n*65536 ^ n
def updN (s:Nat→Nat) (m x:Nat):Nat→Nat:=fun j=>if j=m then x else s j
theorem xcA {s:Nat→Nat} {m x:Nat}:∀ n,n≤m→sumB (updN s m x) n=sumB s n
 | 0,_=>rfl
 | n+1,h=>by
  simp only [sumB]
  rw [xcA n (by omega)]
  unfold updN
  rw [if_neg (by omega)]
theorem x89 {s:Nat→Nat} {m d:Nat}:∀ n,m<n→sumB (updN s m (s m+d)) n=sumB s n+d*65536 ^ m
 | 0,h=>by omega
 | n+1,h=>by
  simp only [sumB]
  by_cases e:n=m
  ·subst e
   rw [xcA n (by omega)]
   unfold updN
   rw [if_pos rfl,Nat.add_mul]
   omega
  ·rw [x89 n (by omega)]
   unfold updN
   rw [if_neg e]
   omega
theorem xjb (u i:Nat):dig u i<65536:=Nat.mod_lt _ (by decide)
theorem xfz (u i:Nat):u%65536 ^ (i+1)=u%65536 ^ i+dig u i*65536 ^ i:=by
 unfold dig
 rw [Nat.pow_succ,Nat.mod_mul,Nat.mul_comm (65536 ^ i)]
theorem xav:∀ n,sumB (fun _=>0) n=0
 | 0=>rfl
 | n+1=>by simp only [sumB,xav n,Nat.zero_mul]
theorem xiG {n:Nat} {s:Nat→Nat} {m x:Nat}:(vrow n fun i=>Value.int .u64 (s i:Nat)).set m [.sc (.int .u64 (x:Nat))]=vrow n fun i=>Value.int .u64 (updN s m x i:Nat):=by
 rw [x6n]
 refine x6o fun i _=>?_
 unfold updN
 by_cases e:i=m<;>simp [e]
abbrev row4 (s:Nat→Nat):Obj:=.row 133 1 0 (vrow 4 fun i=>.int .u64 (s i:Nat))
abbrev row8 (s:Nat→Nat):Obj:=.row 134 1 0 (vrow 8 fun i=>.int .u64 (s i:Nat))
theorem st4 {base:Nat} {g:Heap} {t:TypeId} (a b c d:Value):x0y base (g++[.row t 1 0 (vrow 4 fun _=>.int .u64 0)]) 4 (.rptr g.length 0 0 0) (.agg [.sc a,.sc b,.sc c,.sc d])=some (g++[.row t 1 0 [[.sc a],[.sc b],[.sc c],[.sc d]]]):=by
 have e:vrow 4 (fun _=>Value.int .u64 0)=[[.sc (.int .u64 0)],[.sc (.int .u64 0)],[.sc (.int .u64 0)],[.sc (.int .u64 0)]]:=rfl
 simp [x0y,x3I,e,V.cells,zm,x0H,x0B,x0n,x0E,x3R,List.range_succ]
theorem xf6 (u:Nat) (hu:u<2 ^ 64):[[V.sc (.int .u64 ((u%65536:Nat):Int))],[V.sc (.int .u64 ((u/65536%65536:Nat):Int))],[V.sc (.int .u64 ((u/4294967296%65536:Nat):Int))],[V.sc (.int .u64 ((u/281474976710656:Nat):Int))]]=vrow 4 fun i=>.int .u64 (dig u i:Nat):=by
 have h3:u/281474976710656=u/281474976710656%65536:=by omega
 rw [h3]
 simp [vrow,List.range_succ,dig]
set_option maxRecDepth 5000 in
theorem x5Q {base:Nat} (u v:Nat) (hu:u<2 ^ 64) (hv:v<2 ^ 64) (h:Heap):WpF S0 base x6B [U64 u,U64 v] h fun r h'=>r=.tup [U64 (u*v%18446744073709551616),U64 (mhi u v)]∧h'=h:=by
 first | refine zu (A:=x1m) rfl rfl rfl rfl ?_ | refine zB (A:=x1m) rfl rfl rfl rfl ?_
 simp only [x1m,oD,cD,τ,φ,ι]
 have c4:x3R 1 [V.sc (.int .u64 0),V.sc (.int .u64 0),V.sc (.int .u64 0),V.sc (.int .u64 0)]=vrow 4 fun _=>.int .u64 0:=rfl
 have c8:x3R 1 [V.sc (.int .u64 0),V.sc (.int .u64 0),V.sc (.int .u64 0),V.sc (.int .u64 0),V.sc (.int .u64 0),V.sc (.int .u64 0),V.sc (.int .u64 0),V.sc (.int .u64 0)]=vrow 8 fun _=>.int .u64 0:=rfl
 have fp:∀ a b c d:Value,x0q [.sc (.int .u64 0),.sc (.int .u64 0),.sc (.int .u64 0),.sc (.int .u64 0)] [(0,1,.sc a),(1,1,.sc b),(2,1,.sc c),(3,1,.sc d)]=some [.sc a,.sc b,.sc c,.sc d]:=fun _ _ _ _=>rfl
 have d1:∀ n:Nat,(n:Int).tdiv 65536=((n/65536:Nat):Int):=fun n=>x99 n 65536
 have d2:∀ n:Nat,(n:Int).tdiv 4294967296=((n/4294967296:Nat):Int):=fun n=>x99 n 4294967296
 have d3:∀ n:Nat,(n:Int).tdiv 281474976710656=((n/281474976710656:Nat):Int):=fun n=>x99 n 281474976710656
 have m1:∀ n:Nat,(n:Int).tmod 65536=((n%65536:Nat):Int):=fun n=>x1s n 65536
 have w1:∀ u:Nat,u<2 ^ 64→IntKind.u64.wrap ((u/65536:Nat):Int)=((u/65536:Nat):Int)∧IntKind.u64.wrap ((u/4294967296:Nat):Int)=((u/4294967296:Nat):Int)∧IntKind.u64.wrap ((u/281474976710656:Nat):Int)=((u/281474976710656:Nat):Int):=fun u hu=>⟨x4m (by omega) (by omega),x4m (by omega) (by omega),x4m (by omega) (by omega)⟩
 obtain ⟨u1,u2,u3⟩:=w1 u hu
 obtain ⟨v1,v2,v3⟩:=w1 v hv
 simp only [SQ,SQB,zm,AOp.opds,step,Opd.get,zk,bin,zzc,IntKind.signed,zi,zj,zl,zb,unary,ze,zd,za,zo,zr,zh,zf,zg,zp,Cp.isFull,isNil,zq,simprocAttr,-List.reduceReplicate,SQX,V.cells,c4,c8,d1,d2,d3,m1,u1,u2,u3,v1,v2,v3,x0g,fp,st4,xf6 u hu,xf6 v hv]
 obtain ⟨K,hK⟩:∃ K,K=131070:=⟨_,rfl⟩
 refine x1y (fun k en h'=>∃ i:Nat,k=4-i∧i≤4∧en 10=V.int i∧en 6=.rptr h.length 0 0 0∧en 7=.rptr (h.length+1) 0 0 0∧en 8=.rptr (h.length+2) 0 0 0∧en 9=.rptr (h.length+3) 0 0 0∧∃ s,sumB s 8=(u%65536 ^ i)*v∧(∀ j,s j≤i*(4*K))∧h'=h++[row4 fun _=>0,row4 (dig u),row4 (dig v),row8 s]) 4 ⟨0,rfl,by omega,rfl,rfl,by simp [Env.put,Env.upd],by simp [Env.put,Env.upd],by simp [Env.put,Env.upd],fun _=>0,by rw [xav,Nat.pow_zero,Nat.mod_one,Nat.zero_mul],fun _=>Nat.zero_le _,by simp only [List.append_assoc,List.cons_append,List.nil_append];rfl⟩ ?_
 rintro k en h' ⟨i,rfl,hi,e10,e6,e7,e8,e9,s,hs,hb,rfl⟩
 have g1:∀ d s,(h++[row4 d,row4 (dig u),row4 (dig v),row8 s])[h.length+1]?=some (row4 (dig u)):=fun d s=>by simp
 have g2:∀ d s,(h++[row4 d,row4 (dig u),row4 (dig v),row8 s])[h.length+2]?=some (row4 (dig v)):=fun d s=>by simp
 have g3:∀ d s,(h++[row4 d,row4 (dig u),row4 (dig v),row8 s])[h.length+3]?=some (row8 s):=fun d s=>by simp
 by_cases hlt:i<4
 ·have hlt':(i:Int)<4:=by omega
  simp only [SQ,SQB,zm,AOp.opds,step,Opd.get,zk,bin,zzc,IntKind.signed,zi,zj,zl,zb,unary,ze,zd,za,zo,zr,zh,zf,zg,zp,Cp.isFull,isNil,zq,simprocAttr,-List.reduceReplicate,SQX,V.cells,e10,hlt']
  refine x1y (fun k en h'=>∃ j:Nat,k=4-j∧j≤4∧en 11=V.int j∧en 10=V.int i∧en 6=.rptr h.length 0 0 0∧en 7=.rptr (h.length+1) 0 0 0∧en 8=.rptr (h.length+2) 0 0 0∧en 9=.rptr (h.length+3) 0 0 0∧∃ s,sumB s 8=(u%65536 ^ i)*v+dig u i*65536 ^ i*(v%65536 ^ j)∧(∀ k,s k≤i*(4*K)+j*K)∧h'=h++[row4 fun _=>0,row4 (dig u),row4 (dig v),row8 s]) 4 ⟨0,rfl,by omega,rfl,e10,e6,e7,e8,e9,s,by rw [hs,Nat.pow_zero,Nat.mod_one,Nat.mul_zero,Nat.add_zero],fun k=>Nat.le_trans (hb k) (Nat.le_add_right _ _),rfl⟩ ?_
  clear hs hb e10 e6 e7 e8 e9 s en
  rintro k en h' ⟨j,rfl,hj,e11,e10,e6,e7,e8,e9,s,hs,hb,rfl⟩
  by_cases hlj:j<4
  ·have hlj':(j:Int)<4:=by omega
   have q1:∀ s,zl (h++[row4 fun _=>0,row4 (dig u),row4 (dig v),row8 s]) none (.rptr (h.length+1) 0 0 i)=some (U64 (dig u i)):=fun s=>x7y (g1 _ _) hlt
   have q2:∀ s,zl (h++[row4 fun _=>0,row4 (dig u),row4 (dig v),row8 s]) none (.rptr (h.length+2) 0 0 j)=some (U64 (dig v j)):=fun s=>x7y (g2 _ _) hlj
   have q3:∀ s m,m<8→zl (h++[row4 fun _=>0,row4 (dig u),row4 (dig v),row8 s]) none (.rptr (h.length+3) 0 0 m)=some (U64 (s m)):=fun s m hm=>x7y (g3 _ _) hm
   have q4:∀ (s:Nat→Nat) (m x:Nat),m<8→x0y h.length (h++[row4 fun _=>0,row4 (dig u),row4 (dig v),row8 s]) 1 (.rptr (h.length+3) 0 0 m) (U64 x)=some (h++[row4 fun _=>0,row4 (dig u),row4 (dig v),row8 (updN s m x)]):=fun s m x hm=>by
    rw [x9U (g3 _ _) hm,← x6n,xiG]
    simp
   have du:=xjb u i
   have dv:=xjb v j
   have hp:dig u i*dig v j≤65535*65535:=Nat.mul_le_mul (by omega) (by omega)
   have hb1:=hb (i+j)
   have hb2:=hb (i+j+1)
   have hik:i*(4*K)≤3*(4*K):=Nat.mul_le_mul_right _ (by omega)
   have hjk:j*K≤3*K:=Nat.mul_le_mul_right _ (by omega)
   have p1:uN ((dig u i*dig v j:Nat):Int)=dig u i*dig v j:=x4v (by omega)
   have p2:uN ((dig u i*dig v j/65536:Nat):Int)=dig u i*dig v j/65536:=x4v (by omega)
   have hs1:updN s (i+j) (s (i+j)+dig u i*dig v j%65536) (i+j+1)=s (i+j+1):=by unfold updN;rw [if_neg (by omega)]
   have p3:uN ((s (i+j)+dig u i*dig v j%65536:Nat):Int)=s (i+j)+dig u i*dig v j%65536:=x4v (by omega)
   have p4:uN ((s (i+j+1)+dig u i*dig v j/65536:Nat):Int)=s (i+j+1)+dig u i*dig v j/65536:=x4v (by omega)
   have w1:IntKind.i64.wrap (((i+j:Nat):Int))=((i+j:Nat):Int):=by rw [x08 (by omega) (by omega)]
   have w2:IntKind.i64.wrap (((i+j:Nat):Int)+1)=((i+j+1:Nat):Int):=by rw [x08 (by omega) (by omega)];omega
   have w3:IntKind.i64.wrap ((j:Int)+1)=((j+1:Nat):Int):=by rw [x08 (by omega) (by omega)];omega
   have l1:i+j<8:=by omega
   have l2:i+j+1<8:=by omega
   simp only [SQ,SQB,zm,AOp.opds,step,Opd.get,zk,bin,zzc,IntKind.signed,zi,zj,zb,unary,ze,zd,za,zo,zr,zh,zf,zg,zp,Cp.isFull,isNil,zq,simprocAttr,-List.reduceReplicate,SQX,V.cells,e11,e10,e7,e8,e9,hlj',hlt,hlj,Nat.mul_one,q1,q2,q3 _ _ l1,q3 _ _ l2,q4 _ _ _ l1,q4 _ _ _ l2,d1,m1,w1,w2,w3,l1,l2,x0d,p1,p2,p3,p4,hs1,← Int.natCast_mul,← Int.natCast_add]
   refine ⟨4-(j+1),by omega,j+1,rfl,by omega,rfl,e6,_,?_,fun k=>?_,rfl⟩
   ·rw [show s (i+j+1)=updN s (i+j) (s (i+j)+dig u i*dig v j%65536) (i+j+1) from hs1.symm,x89 8 l2,x89 8 l1,hs,xfz v j]
    have e1:dig u i*dig v j%65536*65536 ^ (i+j)+dig u i*dig v j/65536*65536 ^ (i+j+1)=dig u i*dig v j*65536 ^ (i+j):=by
     rw [Nat.pow_succ,Nat.mul_comm (65536 ^ (i+j)) 65536,← Nat.mul_assoc,← Nat.add_mul]
     congr 1
     omega
    have e2:dig u i*65536 ^ i*(v%65536 ^ j+dig v j*65536 ^ j)=dig u i*65536 ^ i*(v%65536 ^ j)+dig u i*dig v j*65536 ^ (i+j):=by
     rw [Nat.mul_add,Nat.pow_add]
     congr 1
     rw [Nat.mul_assoc,Nat.mul_assoc,Nat.mul_left_comm (65536 ^ i)]
    rw [e2]
    omega
   ·have hk:=hb k
    clear hs hb p3 p4 p1 p2 hs1 q1 q2 q3 q4
    unfold updN
    rw [Nat.add_mul j 1 K,Nat.one_mul]
    generalize i*(4*K)=A at *
    generalize j*K=B at *
    have h1:=Nat.mod_lt (dig u i*dig v j) (show 0<65536 by omega)
    (repeat' split)<;>omega
  ·obtain rfl:j=4:=Nat.le_antisymm hj (Nat.le_of_not_lt hlj)
   have hlj':¬ ((4:Nat):Int)<4:=by omega
   have w1:IntKind.i64.wrap ((i:Int)+1)=((i+1:Nat):Int):=by rw [x08 (by omega) (by omega)];omega
   simp only [SQ,SQB,zm,AOp.opds,step,Opd.get,zk,bin,zzc,IntKind.signed,zi,zj,zl,zb,unary,ze,zd,za,zo,zr,zh,zf,zg,zp,Cp.isFull,isNil,zq,simprocAttr,-List.reduceReplicate,SQX,V.cells,e11,e10,hlj',w1]
   refine ⟨4-(i+1),by omega,i+1,rfl,by omega,rfl,e6,e7,e8,e9,s,?_,fun k=>?_,rfl⟩
   ·rw [hs,xfz u i,Nat.add_mul,show (65536:Nat) ^ 4=2 ^ 64 from by decide,Nat.mod_eq_of_lt (a:=v) hv]
   ·have hk:=hb k
    rw [Nat.add_mul i 1,Nat.one_mul]
    clear hs hb
    generalize i*(4*K)=A at *
    omega
 ·obtain rfl:i=4:=by omega
  have hlt':¬ ((4:Nat):Int)<4:=by omega
  have p4:(65536:Nat) ^ 4=2 ^ 64:=by decide
  have hs':sumB s 8=u*v:=by rw [hs,p4,Nat.mod_eq_of_lt hu]
  have hb':∀ j,s j≤2097120:=fun j=>by have:=hb j;omega
  simp only [SQ,SQB,zm,AOp.opds,step,Opd.get,zk,bin,zzc,IntKind.signed,zi,zj,zl,zb,unary,ze,zd,za,zo,zr,zh,zf,zg,zp,Cp.isFull,isNil,zq,simprocAttr,-List.reduceReplicate,SQX,V.cells,e10,hlt',c4]
  refine x1y (fun k en h'=>∃ i:Nat,k=8-i∧i≤8∧en 15=V.int i∧en 6=.rptr h.length 0 0 0∧en 9=.rptr (h.length+3) 0 0 0∧en 13=.rptr (h.length+4) 0 0 0∧∃ (c:Nat) (dg:Nat→Nat),en 14=U64 c∧c≤64∧(∀ j,dg j<65536)∧sumB dg i+c*65536 ^ i=sumB s i∧(∀ j,i≤j→dg j=0)∧h'=h++[row4 dg,row4 (dig u),row4 (dig v),row8 s,row4 fun j=>dg (j+4)]) 8 ⟨0,rfl,by omega,rfl,e6,e9,by simp [Env.put,Env.upd],0,fun _=>0,rfl,by omega,by simp,by simp [sumB],by simp,by simp only [List.append_assoc,List.cons_append,List.nil_append];rfl⟩ ?_
  clear hs hb e10 e6 e7 e8 e9 en
  rintro k en h' ⟨i,rfl,hi,e15,e6,e9,e13,c,dg,e14,hc,hd,hS,hz,rfl⟩
  have k1:∀ (d e:Nat→Nat),(h++[row4 d,row4 (dig u),row4 (dig v),row8 s,row4 e])[h.length]?=some (row4 d):=fun d e=>by simp
  have k2:∀ (d e:Nat→Nat),(h++[row4 d,row4 (dig u),row4 (dig v),row8 s,row4 e])[h.length+3]?=some (row8 s):=fun d e=>by simp
  have k3:∀ (d e:Nat→Nat),(h++[row4 d,row4 (dig u),row4 (dig v),row8 s,row4 e])[h.length+4]?=some (row4 e):=fun d e=>by simp
  have l1:∀ (d e:Nat→Nat) (m:Nat),m<4→zl (h++[row4 d,row4 (dig u),row4 (dig v),row8 s,row4 e]) none (.rptr h.length 0 0 m)=some (U64 (d m)):=fun d e m hm=>x7y (k1 _ _) hm
  have l2:∀ (d e:Nat→Nat) (m:Nat),m<8→zl (h++[row4 d,row4 (dig u),row4 (dig v),row8 s,row4 e]) none (.rptr (h.length+3) 0 0 m)=some (U64 (s m)):=fun d e m hm=>x7y (k2 _ _) hm
  have l3:∀ (d e:Nat→Nat) (m:Nat),m<4→zl (h++[row4 d,row4 (dig u),row4 (dig v),row8 s,row4 e]) none (.rptr (h.length+4) 0 0 m)=some (U64 (e m)):=fun d e m hm=>x7y (k3 _ _) hm
  by_cases hlt:i<8
  ·have hlt':(i:Int)<8:=by omega
   have hsi:=hb' i
   have p1:uN ((s i+c:Nat):Int)=s i+c:=x4v (by omega)
   have p2:uN (((s i+c)/65536:Nat):Int)=(s i+c)/65536:=x4v (by omega)
   have w1:IntKind.i64.wrap ((i:Int)+1)=((i+1:Nat):Int):=by rw [x08 (by omega) (by omega)];omega
   have hS':sumB (updN dg i ((s i+c)%65536)) (i+1)+(s i+c)/65536*65536 ^ (i+1)=sumB s (i+1):=by
    have e0:(s i+c)%65536=dg i+(s i+c)%65536:=by rw [hz i (Nat.le_refl _),Nat.zero_add]
    rw [e0,x89 (i+1) (by omega)]
    simp only [sumB]
    rw [hz i (Nat.le_refl _),Nat.pow_succ,Nat.mul_comm (65536 ^ i) 65536,← Nat.mul_assoc]
    have e1:(s i+c)%65536*65536 ^ i+(s i+c)/65536*65536*65536 ^ i=s i*65536 ^ i+c*65536 ^ i:=by
     rw [← Nat.add_mul,← Nat.add_mul]
     congr 1
     omega
    omega
   have hd':∀ j,updN dg i ((s i+c)%65536) j<65536:=fun j=>by
    have:=hd j
    unfold updN
    split<;>omega
   have hz':∀ j,i+1≤j→updN dg i ((s i+c)%65536) j=0:=fun j hj=>by
    unfold updN
    rw [if_neg (by omega)]
    exact hz j (by omega)
   by_cases h4:i<4
   ·have h4':(i:Int)<4:=by omega
    have st:x0y h.length (h++[row4 dg,row4 (dig u),row4 (dig v),row8 s,row4 fun j=>dg (j+4)]) 1 (.rptr h.length 0 0 i) (U64 ((s i+c)%65536))=some (h++[row4 (updN dg i ((s i+c)%65536)),row4 (dig u),row4 (dig v),row8 s,row4 fun j=>dg (j+4)]):=by
     rw [x9U (k1 _ _) h4,← x6n,xiG]
     simp
    have hh:(fun j=>dg (j+4))=fun j=>updN dg i ((s i+c)%65536) (j+4):=by
     funext j
     unfold updN
     rw [if_neg (by omega)]
    simp only [SQ,SQB,zm,AOp.opds,step,Opd.get,zk,bin,zzc,IntKind.signed,zi,zj,zb,unary,ze,zd,za,zo,zr,zh,zf,zg,zp,Cp.isFull,isNil,zq,simprocAttr,-List.reduceReplicate,SQX,V.cells,e15,e14,e6,e9,e13,hlt',hlt,h4,h4',Nat.mul_one,l2 _ _ _ hlt,d1,m1,w1,x0d,p1,p2,st,← Int.natCast_add]
    exact ⟨8-(i+1),by omega,i+1,rfl,by omega,rfl,_,_,rfl,by omega,hd',hS',hz',by rw [hh]⟩
   ·have h4':¬ (i:Int)<4:=by omega
    have hlow:i-4<4:=by omega
    have st:x0y h.length (h++[row4 dg,row4 (dig u),row4 (dig v),row8 s,row4 fun j=>dg (j+4)]) 1 (.rptr (h.length+4) 0 0 (i-4)) (U64 ((s i+c)%65536))=some (h++[row4 (updN dg i ((s i+c)%65536)),row4 (dig u),row4 (dig v),row8 s,row4 fun j=>updN dg i ((s i+c)%65536) (j+4)]):=by
     have ea:(vrow 4 fun j=>if j=i-4 then Value.int .u64 (((s i+c)%65536:Nat):Int) else Value.int .u64 ((dg (j+4):Nat):Int))=vrow 4 fun j=>Value.int .u64 ((updN dg i ((s i+c)%65536) (j+4):Nat):Int):=x6o fun j _=>by
      unfold updN
      by_cases e:j=i-4
      ·rw [if_pos e,if_pos (by omega)]
      ·rw [if_neg e,if_neg (by omega)]
     have eb:row4 (updN dg i ((s i+c)%65536))=row4 dg:=by
      unfold row4
      congr 1
      exact x6o fun j hj=>by unfold updN;rw [if_neg (by omega)]
     rw [x9U (k3 _ _) hlow,ea,eb]
     simp
    have w4:IntKind.i64.wrap ((i:Int)-4)=((i-4:Nat):Int):=by rw [x08 (by omega) (by omega)];omega
    simp only [SQ,SQB,zm,AOp.opds,step,Opd.get,zk,bin,zzc,IntKind.signed,zi,zj,zb,unary,ze,zd,za,zo,zr,zh,zf,zg,zp,Cp.isFull,isNil,zq,simprocAttr,-List.reduceReplicate,SQX,V.cells,e15,e14,e6,e9,e13,hlt',hlt,h4',hlow,w4,Nat.mul_one,l2 _ _ _ hlt,d1,m1,w1,x0d,p1,p2,st,← Int.natCast_add]
    exact ⟨8-(i+1),by omega,i+1,rfl,by omega,rfl,_,_,rfl,by omega,hd',hS',hz',rfl⟩
  ·obtain rfl:i=8:=by omega
   have hlt':¬ ((8:Nat):Int)<8:=by omega
   have d0:=hd 0
   have d1:=hd 1
   have d2:=hd 2
   have d3:=hd 3
   have d4:=hd 4
   have d5:=hd 5
   have d6:=hd 6
   have d7:=hd 7
   rw [hs'] at hS
   have huv:u*v≤18446744073709551615*18446744073709551615:=Nat.mul_le_mul (by omega) (by omega)
   have hmh:mhi u v=u*v/18446744073709551616:=rfl
   generalize u*v=P at *
   simp only [sumB,Nat.reducePow,Nat.zero_add] at hS
   obtain rfl:c=0:=by omega
   have x1:∀ n:Nat,(n:Int)*2 ^ min 16 IntKind.u64.bits=((n*65536:Nat):Int):=fun n=>by rw [show min 16 IntKind.u64.bits=16 from rfl];simp
   have x2:∀ n:Nat,(n:Int)*2 ^ min 32 IntKind.u64.bits=((n*4294967296:Nat):Int):=fun n=>by rw [show min 32 IntKind.u64.bits=32 from rfl];simp
   have x3:∀ n:Nat,(n:Int)*2 ^ min 48 IntKind.u64.bits=((n*281474976710656:Nat):Int):=fun n=>by rw [show min 48 IntKind.u64.bits=48 from rfl];simp
   have uu:∀ n:Nat,uN (n:Int)=n%18446744073709551616:=fun n=>by unfold uN;omega
   have y1:∀ n:Nat,(n:Int)*65536=((n*65536:Nat):Int):=fun n=>by simp
   have y2:∀ n:Nat,(n:Int)*4294967296=((n*4294967296:Nat):Int):=fun n=>by simp
   have y3:∀ n:Nat,(n:Int)*281474976710656=((n*281474976710656:Nat):Int):=fun n=>by simp
   simp only [SQ,SQB,zm,AOp.opds,step,Opd.get,zk,bin,zzc,IntKind.signed,zi,zj,zb,unary,ze,zd,za,zo,zr,zh,zf,zg,zp,Cp.isFull,isNil,zq,simprocAttr,-List.reduceReplicate,SQX,V.cells,e15,e14,e6,e9,e13,hlt',Nat.mul_one,Nat.zero_mul,Nat.one_mul,l1 _ _ 0 (by decide),l1 _ _ 1 (by decide),l1 _ _ 2 (by decide),l1 _ _ 3 (by decide),l3 _ _ 0 (by decide),l3 _ _ 1 (by decide),l3 _ _ 2 (by decide),l3 _ _ 3 (by decide),x1,x2,x3,y1,y2,y3,x0d,uu,← Int.natCast_add,Nat.le_refl]
   refine ⟨?_,by simp⟩
   rw [hmh]
   simp only [V.tup.injEq,List.cons.injEq,V.sc.injEq,Value.int.injEq,and_true,true_and,Int.natCast_inj]
   clear hz hd l1 l2 l3 k1 k2 k3
   constructor<;>omega
end
section
def I64 (a:Int):Prop:=-9223372036854775808≤a∧a≤9223372036854775807
theorem x4o (x:Int):w64 x=(x+9223372036854775808)%18446744073709551616-9223372036854775808:=by
 simp only [w64,IntKind.wrap,IntKind.bits,IntKind.signed,Bool.true_and,decide_eq_true_eq,ge_iff_le,Int.reducePow,Nat.reduceSub]
 split<;>omega
theorem xdq (x:Int):I64 (w64 x):=by
 rw [x4o]
 unfold I64
 omega
theorem x7C (n:Int):hlfI n=(n+2147483648)%4294967296-2147483648:=by
 simp only [hlfI,IntKind.wrap,IntKind.bits,IntKind.signed,Bool.true_and,decide_eq_true_eq,ge_iff_le,Int.reducePow,Nat.reduceSub]
 split<;>omega
theorem x2i (n:Int):I64 (hlfI n):=by
 have:=xfV n
 unfold I64
 omega
theorem xn4 (n:Int):S 32 (uN n)=hlfI n:=by
 rw [x7C]
 unfold S uN
 simp only [Nat.reducePow,Nat.reduceSub,Int.reducePow]
 split<;>omega
theorem x5f {base:Nat} (n:Int) (h:Heap):WpF S0 base x67 [.sc (.int .i64 n)] h fun v h'=>v=.sc (.int .i64 (hlfI n))∧h'=h:=by
 have hs:∀ base h,WpF S0 base x4p [.sc (.int .u64 (uN n:Nat)),.sc (.int .i64 32)] h fun r h'=>r=.sc (.int .i64 (S 32 (uN n)))∧h'=h:=fun base h=>xjx (uN n) 32 h (x1u n) (by omega) (by omega)
 first | refine zu (A:=x17) rfl rfl rfl rfl ?_ | refine zB (A:=x17) rfl rfl rfl rfl ?_
 simp only [x17,oD,cD,τ,φ,ι]
 simp only [SQ,SQB,zm,AOp.opds,step,Opd.get,zk,bin,zzc,IntKind.signed,zi,zj,zl,zb,unary,ze,zd,za,zo,zr,zh,zf,zg,zp,Cp.isFull,isNil,zq,simprocAttr,SQX,V.cells,x0d,zn (hs _ _),xn4]
theorem x6I {base:Nat} (b:Bool) (h:Heap):WpF S0 base x6y [.sc (.bool b)] h fun v h'=>v=.sc (.int .i64 (if b then 1 else 0))∧h'=h:=by
 first | refine zu (A:=x1j) rfl rfl rfl rfl ?_ | refine zB (A:=x1j) rfl rfl rfl rfl ?_
 simp only [x1j,oD,cD,τ,φ,ι]
 cases b<;>simp only [SQ,SQB,zm,AOp.opds,step,Opd.get,zk,bin,zzc,IntKind.signed,zi,zj,zl,zb,unary,ze,zd,za,zo,zr,zh,zf,zg,zp,Cp.isFull,isNil,zq,simprocAttr,SQX,V.cells]
theorem xdn {base:Nat} (a:Int) (ha:I64 a) (h:Heap):WpF S0 base x6A [.sc (.int .i64 a)] h fun v h'=>v=U64 a.natAbs∧h'=h:=by
 unfold I64 at ha
 first | refine zu (A:=x1l) rfl rfl rfl rfl ?_ | refine zB (A:=x1l) rfl rfl rfl rfl ?_
 simp only [x1l,oD,cD,τ,φ,ι]
 by_cases hn:a<0
 ·have e:uN (-((uN a:Nat):Int))=a.natAbs:=by unfold uN;omega
  simp only [SQ,SQB,zm,AOp.opds,step,Opd.get,zk,bin,zzc,IntKind.signed,zi,zj,zl,zb,unary,ze,zd,za,zo,zr,zh,zf,zg,zp,Cp.isFull,isNil,zq,simprocAttr,SQX,V.cells,hn,x0d,Int.zero_sub,e]
 ·have e:uN a=a.natAbs:=by unfold uN;omega
  simp only [SQ,SQB,zm,AOp.opds,step,Opd.get,zk,bin,zzc,IntKind.signed,zi,zj,zl,zb,unary,ze,zd,za,zo,zr,zh,zf,zg,zp,Cp.isFull,isNil,zq,simprocAttr,SQX,V.cells,hn,x0d,e]
theorem xng (a b:Int) (hb:b≠0):quoI a b=w64 (a.tdiv b):=by
 unfold quoI
 rw [if_neg hb]
 split
 ·rename_i h;subst h;rw [Int.tdiv_neg,Int.tdiv_one]
 ·rfl
theorem xne (a b:Int) (ha:I64 a) (hb:b≠0):remI a b=w64 (a.tmod b):=by
 unfold remI
 rw [if_neg hb]
 split
 ·rename_i h;subst h;rw [Int.tmod_neg,Int.tmod_one];rfl
 ·have h1:(a.tmod b).natAbs=a.natAbs%b.natAbs:=Int.natAbs_tmod a b
  have h2:=Nat.mod_le a.natAbs b.natAbs
  rw [← h1] at h2
  have h3:a<0→a.tmod b≤0:=fun hn=>by
   have:=Int.tmod_nonneg b (show 0≤-a by omega)
   rw [Int.neg_tmod] at this
   omega
  unfold I64 at ha
  rw [x4o]
  omega
theorem x45 {base:Nat} (a b:Int) (ha:I64 a) (hb:I64 b) (h:Heap):WpF S0 base x6C [.sc (.int .i64 a),.sc (.int .i64 b)] h fun v h'=>v=.tup [.sc (.int .i64 (quoI a b)),.sc (.int .i64 (remI a b))]∧h'=h:=by
 have c1:=fun base h=>xdn (base:=base) a ha h
 have c2:=fun base h=>xdn (base:=base) b hb h
 first | refine zu (A:=x1n) rfl rfl rfl rfl ?_ | refine zB (A:=x1n) rfl rfl rfl rfl ?_
 simp only [x1n,oD,cD,τ,φ,ι]
 by_cases h0:b=0
 ·subst h0
  simp only [SQ,SQB,zm,AOp.opds,step,Opd.get,zk,bin,zzc,IntKind.signed,zi,zj,zl,zb,unary,ze,zd,za,zo,zr,zh,zf,zg,zp,Cp.isFull,isNil,zq,simprocAttr,SQX,V.cells,quoI,remI]
 ·have hz:(((b.natAbs:Nat):Int)=0)=False:=by simp [h0]
  rw [xng a b h0,xne a b ha h0]
  unfold I64 at ha hb
  have hq:a.natAbs/b.natAbs≤a.natAbs:=Nat.div_le_self _ _
  have hr:a.natAbs%b.natAbs≤a.natAbs:=Nat.mod_le _ _
  have e1:uN ((a.natAbs/b.natAbs:Nat):Int)=a.natAbs/b.natAbs:=x4v (by omega)
  have e2:∀ x:Int,w64 (uN x:Nat)=w64 x:=fun x=>by rw [x4o,x4o];unfold uN;omega
  have sgn:(0≤a→0≤b→a.tdiv b=((a.natAbs/b.natAbs:Nat):Int)∧a.tmod b=((a.natAbs%b.natAbs:Nat):Int))∧(a<0→0≤b→a.tdiv b = -((a.natAbs/b.natAbs:Nat):Int)∧a.tmod b = -((a.natAbs%b.natAbs:Nat):Int)) ∧
    (0≤a→b<0→a.tdiv b = -((a.natAbs/b.natAbs:Nat):Int)∧a.tmod b=((a.natAbs%b.natAbs:Nat):Int))∧(a<0→b<0→a.tdiv b=((a.natAbs/b.natAbs:Nat):Int)∧a.tmod b = -((a.natAbs%b.natAbs:Nat):Int)):=by
   have t1:=x99 a.natAbs b.natAbs
   have t2:=x1s a.natAbs b.natAbs
   refine ⟨fun p q=>?_,fun p q=>?_,fun p q=>?_,fun p q=>?_⟩
   ·rw [← t1,← t2]
    have ea:((a.natAbs:Nat):Int)=a:=by omega
    have eb:((b.natAbs:Nat):Int)=b:=by omega
    rw [ea,eb];exact ⟨rfl,rfl⟩
   ·rw [← t1,← t2]
    have ea:((a.natAbs:Nat):Int) = -a:=by omega
    have eb:((b.natAbs:Nat):Int)=b:=by omega
    rw [ea,eb,Int.neg_tdiv,Int.neg_tmod,Int.neg_neg,Int.neg_neg];exact ⟨rfl,rfl⟩
   ·rw [← t1,← t2]
    have ea:((a.natAbs:Nat):Int)=a:=by omega
    have eb:((b.natAbs:Nat):Int) = -b:=by omega
    rw [ea,eb,Int.tdiv_neg,Int.tmod_neg,Int.neg_neg];exact ⟨rfl,rfl⟩
   ·rw [← t1,← t2]
    have ea:((a.natAbs:Nat):Int) = -a:=by omega
    have eb:((b.natAbs:Nat):Int) = -b:=by omega
    rw [ea,eb,Int.neg_tdiv,Int.tdiv_neg,Int.neg_neg,Int.neg_tmod,Int.tmod_neg,Int.neg_neg];exact ⟨rfl,rfl⟩
  obtain ⟨s1,s2,s3,s4⟩:=sgn
  have tf:(true==false)=false:=rfl
  have ft:(false==true)=false:=rfl
  by_cases ka:a<0<;>by_cases kb:b<0
  ·obtain ⟨t1,t2⟩:=s4 ka kb
   simp only [SQ,SQB,zm,AOp.opds,step,Opd.get,zk,bin,zzc,IntKind.signed,zi,zj,zl,zb,unary,ze,zd,za,zo,zr,zh,zf,zg,zp,Cp.isFull,isNil,zq,simprocAttr,SQX,V.cells,h0,hz,ka,kb,zn (c1 _ _),zn (c2 _ _),x99,x1s,x0d,e1,e2,t1,t2,Int.zero_sub,tf,ft]
  ·obtain ⟨t1,t2⟩:=s2 ka (by omega)
   simp only [SQ,SQB,zm,AOp.opds,step,Opd.get,zk,bin,zzc,IntKind.signed,zi,zj,zl,zb,unary,ze,zd,za,zo,zr,zh,zf,zg,zp,Cp.isFull,isNil,zq,simprocAttr,SQX,V.cells,h0,hz,ka,kb,zn (c1 _ _),zn (c2 _ _),x99,x1s,x0d,e1,e2,t1,t2,Int.zero_sub,tf,ft]
  ·obtain ⟨t1,t2⟩:=s3 (by omega) kb
   simp only [SQ,SQB,zm,AOp.opds,step,Opd.get,zk,bin,zzc,IntKind.signed,zi,zj,zl,zb,unary,ze,zd,za,zo,zr,zh,zf,zg,zp,Cp.isFull,isNil,zq,simprocAttr,SQX,V.cells,h0,hz,ka,kb,zn (c1 _ _),zn (c2 _ _),x99,x1s,x0d,e1,e2,t1,t2,Int.zero_sub,tf,ft]
  ·obtain ⟨t1,t2⟩:=s1 (by omega) (by omega)
   simp only [SQ,SQB,zm,AOp.opds,step,Opd.get,zk,bin,zzc,IntKind.signed,zi,zj,zl,zb,unary,ze,zd,za,zo,zr,zh,zf,zg,zp,Cp.isFull,isNil,zq,simprocAttr,SQX,V.cells,h0,hz,ka,kb,zn (c1 _ _),zn (c2 _ _),x99,x1s,x0d,e1,e2,t1,t2,Int.zero_sub,tf,ft]
theorem x2W {base:Nat} (a b:Nat) (ha:a<2 ^ 64) (h:Heap):WpF S0 base x68 [U64 a,U64 b] h fun v h'=>v=.tup [.sc (.int .i64 (quoU a b)),.sc (.int .i64 (remU a b))]∧h'=h:=by
 have hd:=Nat.div_le_self a b
 have hm:=Nat.mod_le a b
 have e1:uN ((a/b:Nat):Int)=a/b:=x4v (by omega)
 have e2:uN ((a%b:Nat):Int)=a%b:=x4v (by omega)
 have e0:((b:Int)=0)=(b=0):=by simp
 first | refine zu (A:=x18) rfl rfl rfl rfl ?_ | refine zB (A:=x18) rfl rfl rfl rfl ?_
 simp only [x18,oD,cD,τ,φ,ι]
 by_cases h0:b=0
 ·subst h0
  simp only [SQ,SQB,zm,AOp.opds,step,Opd.get,zk,bin,zzc,IntKind.signed,zi,zj,zl,zb,unary,ze,zd,za,zo,zr,zh,zf,zg,zp,Cp.isFull,isNil,zq,simprocAttr,SQX,V.cells,Nat.le_refl,quoU,remU,Int.natCast_zero]
 ·simp only [SQ,SQB,zm,AOp.opds,step,Opd.get,zk,bin,zzc,IntKind.signed,zi,zj,zl,zb,unary,ze,zd,za,zo,zr,zh,zf,zg,zp,Cp.isFull,isNil,zq,simprocAttr,SQX,V.cells,x99,x1s,x0d,e1,e2,e0,h0,quoU,remU,Nat.le_refl]
theorem xfD (A Y:Nat) (h1:1≤A) (h2:A≤9223372036854775808):((mhi (18446744073709551616-A) Y:Nat):Int)=(Y:Int)-(mhi A Y:Nat)-(if A*Y%18446744073709551616=0 then 0 else 1):=by
 unfold mhi
 have e:(18446744073709551616-A)*Y=18446744073709551616*Y-A*Y:=Nat.sub_mul _ _ _
 have l:A*Y≤9223372036854775808*Y:=Nat.mul_le_mul_right _ h2
 rw [e]
 generalize A*Y=P at *
 split<;>omega
theorem xhF (A B:Nat) (h1:1≤A) (h2:A≤9223372036854775808) (h3:1≤B) (h4:B≤9223372036854775808):((mhi (18446744073709551616-A) (18446744073709551616-B):Nat):Int)=18446744073709551616-(A:Int)-B+(mhi A B:Nat):=by
 unfold mhi
 have e:(18446744073709551616-A)*(18446744073709551616-B)=18446744073709551616*(18446744073709551616-B)-A*(18446744073709551616-B):=Nat.sub_mul _ _ _
 have e2:A*(18446744073709551616-B)=A*18446744073709551616-A*B:=Nat.mul_sub _ _ _
 have l:A*B≤A*9223372036854775808:=Nat.mul_le_mul_left _ h4
 rw [e,e2]
 generalize A*B=P at *
 omega
theorem xcV (A B:Nat):mhi A B=mhi B A:=by unfold mhi;rw [Nat.mul_comm]
theorem xcU {A B:Nat} (h1:A<2 ^ 64) (h2:B<2 ^ 64):mhi A B<18446744073709551616:=(xiP A B h1 h2).2.1
theorem xft (n:Nat) (hn:n<18446744073709551616):uN (((BitVec.ofInt IntKind.u64.bits IntKind.u64.max ^^^ BitVec.ofInt IntKind.u64.bits (n:Int)).toNat:Nat):Int)=18446744073709551615-n:=by
 have e1:BitVec.ofInt IntKind.u64.bits IntKind.u64.max=BitVec.allOnes _:=by decide
 have e2:(BitVec.ofInt IntKind.u64.bits (n:Int)).toNat=n:=by
  simp [IntKind.bits];omega
 rw [e1,BitVec.allOnes_xor,BitVec.toNat_not,e2]
 have:(2:Nat) ^ IntKind.u64.bits=18446744073709551616:=by decide
 rw [this]
 unfold uN
 omega
theorem x50 {base:Nat} (a b:Int) (sa sb:Bool) (ha:I64 a) (hb:I64 b) (h:Heap):WpF S0 base x5T [.sc (.int .i64 a),.sc (.int .i64 b),.sc (.bool sa),.sc (.bool sb)] h fun v h'=>v=.sc (.int .i64 (x5q a b sa sb))∧h'=h:=by
 have c1:=fun base h=>xdn (base:=base) a ha h
 have c2:=fun base h=>xdn (base:=base) b hb h
 have m1:=fun base h=>x5Q (base:=base) (uN a) (uN b) (x1u a) (x1u b) h
 unfold I64 at ha hb
 have na:a.natAbs<2 ^ 64:=by omega
 have nb:b.natAbs<2 ^ 64:=by omega
 have m2:=fun base h=>x5Q (base:=base) a.natAbs (uN b) na (x1u b) h
 have m3:=fun base h=>x5Q (base:=base) (uN a) b.natAbs (x1u a) nb h
 have m4:=fun base h=>x5Q (base:=base) a.natAbs b.natAbs na nb h
 have e2:∀ x:Int,w64 (uN x:Nat)=w64 x:=fun x=>by rw [x4o,x4o];unfold uN;omega
 have n2:=xft (mhi a.natAbs (uN b)) (xcU na (x1u b))
 have n3:=xft (mhi (uN a) b.natAbs) (xcU (x1u a) nb)
 have l2:=xcU na (x1u b)
 have l3:=xcU (x1u a) nb
 first | refine zu (A:=x0X) rfl rfl rfl rfl ?_ | refine zB (A:=x0X) rfl rfl rfl rfl ?_
 simp only [x0X,oD,cD,τ,φ,ι]
 by_cases ka:sa=true∧a<0<;>by_cases kb:sb=true∧b<0
 ·obtain ⟨rfl,ka⟩:=ka
  obtain ⟨rfl,kb⟩:=kb
  simp only [SQ,SQB,zm,AOp.opds,step,Opd.get,zk,bin,zzc,IntKind.signed,zi,zj,zl,zb,unary,ze,zd,za,zo,zr,zh,zf,zg,zp,Cp.isFull,isNil,zq,simprocAttr,SQX,V.cells,ka,kb,zn (c1 _ _),zn (c2 _ _),zn (m4 _ _),x0d,x5q,e2,Nat.le_refl,List.take_length]
  have ua:uN a=18446744073709551616-a.natAbs:=by unfold uN;omega
  have ub:uN b=18446744073709551616-b.natAbs:=by unfold uN;omega
  rw [ua,ub,xhF _ _ (by omega) (by omega) (by omega) (by omega)]
  clear c1 c2 m1 m2 m3 m4 n2 n3 l2 l3
  generalize mhi a.natAbs b.natAbs=M
  congr 2
  show w64 _=_
  simp only [x4o]
  omega
 ·obtain ⟨rfl,ka⟩:=ka
  have ua:uN a=18446744073709551616-a.natAbs:=by unfold uN;omega
  have key:∀ x:Nat,x=(18446744073709551615-mhi a.natAbs (uN b))+(if a.natAbs*uN b%18446744073709551616=0 then 1 else 0)→w64 (x:Int)=w64 (w64 ((mhi (uN a) (uN b):Nat):Int)-b):=fun x hx=>by
   rw [ua,xfD _ _ (by omega) (by omega)]
   simp only [x4o]
   have ub:((uN b:Nat):Int)=b%18446744073709551616:=by unfold uN;omega
   clear c1 c2 m1 m2 m3 m4 n2 n3 l3
   generalize mhi a.natAbs (uN b)=M at *
   split at hx<;>rename_i hq<;>simp only [hq,if_true,if_false]<;>omega
  cases sb with
  | true =>
   have kb:¬ b<0:=fun h=>kb ⟨rfl,h⟩
   simp only [SQ,SQB,zm,AOp.opds,step,Opd.get,zk,bin,zzc,IntKind.signed,zi,zj,zl,zb,unary,ze,zd,za,zo,zr,zh,zf,zg,zp,Cp.isFull,isNil,zq,simprocAttr,SQX,V.cells,ka,kb,zn (c1 _ _),zn (m2 _ _),x0d,x5q,e2,n2,Nat.le_refl,List.take_length]
   split<;>rename_i hq
   ·rw [show ((18446744073709551615-mhi a.natAbs (uN b):Nat):Int)+1=((18446744073709551615-mhi a.natAbs (uN b)+1:Nat):Int) by omega,key _ (by rw [if_pos (by omega)])]
   ·show V.sc (.int .i64 (w64 _))=_
    rw [key _ (by rw [if_neg (by omega)];rfl)]
  | false =>
   simp only [SQ,SQB,zm,AOp.opds,step,Opd.get,zk,bin,zzc,IntKind.signed,zi,zj,zl,zb,unary,ze,zd,za,zo,zr,zh,zf,zg,zp,Cp.isFull,isNil,zq,simprocAttr,SQX,V.cells,ka,zn (c1 _ _),zn (m2 _ _),x0d,x5q,e2,n2,Nat.le_refl,List.take_length]
   split<;>rename_i hq
   ·rw [show ((18446744073709551615-mhi a.natAbs (uN b):Nat):Int)+1=((18446744073709551615-mhi a.natAbs (uN b)+1:Nat):Int) by omega,key _ (by rw [if_pos (by omega)])]
   ·show V.sc (.int .i64 (w64 _))=_
    rw [key _ (by rw [if_neg (by omega)];rfl)]
 ·obtain ⟨rfl,kb⟩:=kb
  have ub:uN b=18446744073709551616-b.natAbs:=by unfold uN;omega
  have key:∀ x:Nat,x=(18446744073709551615-mhi (uN a) b.natAbs)+(if uN a*b.natAbs%18446744073709551616=0 then 1 else 0)→w64 (x:Int)=w64 (w64 ((mhi (uN a) (uN b):Nat):Int)-a):=fun x hx=>by
   rw [ub,xcV,xfD _ _ (by omega) (by omega),xcV,Nat.mul_comm]
   simp only [x4o]
   have ua:((uN a:Nat):Int)=a%18446744073709551616:=by unfold uN;omega
   clear c1 c2 m1 m2 m3 m4 n2 n3 l2
   generalize mhi (uN a) b.natAbs=M at *
   split at hx<;>rename_i hq<;>simp only [hq,if_true,if_false]<;>omega
  cases sa with
  | true =>
   have ka:¬ a<0:=fun h=>ka ⟨rfl,h⟩
   simp only [SQ,SQB,zm,AOp.opds,step,Opd.get,zk,bin,zzc,IntKind.signed,zi,zj,zl,zb,unary,ze,zd,za,zo,zr,zh,zf,zg,zp,Cp.isFull,isNil,zq,simprocAttr,SQX,V.cells,ka,kb,zn (c2 _ _),zn (m3 _ _),x0d,x5q,e2,n3,Nat.le_refl,List.take_length]
   split<;>rename_i hq
   ·rw [show ((18446744073709551615-mhi (uN a) b.natAbs:Nat):Int)+1=((18446744073709551615-mhi (uN a) b.natAbs+1:Nat):Int) by omega,key _ (by rw [if_pos (by omega)])]
   ·show V.sc (.int .i64 (w64 _))=_
    rw [key _ (by rw [if_neg (by omega)];rfl)]
  | false =>
   simp only [SQ,SQB,zm,AOp.opds,step,Opd.get,zk,bin,zzc,IntKind.signed,zi,zj,zl,zb,unary,ze,zd,za,zo,zr,zh,zf,zg,zp,Cp.isFull,isNil,zq,simprocAttr,SQX,V.cells,kb,zn (c2 _ _),zn (m3 _ _),x0d,x5q,e2,n3,Nat.le_refl,List.take_length]
   split<;>rename_i hq
   ·rw [show ((18446744073709551615-mhi (uN a) b.natAbs:Nat):Int)+1=((18446744073709551615-mhi (uN a) b.natAbs+1:Nat):Int) by omega,key _ (by rw [if_pos (by omega)])]
   ·show V.sc (.int .i64 (w64 _))=_
    rw [key _ (by rw [if_neg (by omega)];rfl)]
 ·cases sa<;>cases sb<;>by_cases ja:a<0<;>by_cases jb:b<0<;>first
   | (exfalso;exact ka ⟨rfl,ja⟩)
   | (exfalso;exact kb ⟨rfl,jb⟩)
   | simp only [SQ,SQB,zm,AOp.opds,step,Opd.get,zk,bin,zzc,IntKind.signed,zi,zj,zl,zb,unary,ze,zd,za,zo,zr,zh,zf,zg,zp,Cp.isFull,isNil,zq,simprocAttr,SQX,V.cells,ja,jb,zn (m1 _ _),x0d,x5q,e2,Nat.le_refl,List.take_length]
end
section
theorem tb (u k:Nat):u.testBit k=decide (u/2 ^ k%2=1):=by
 rw [Nat.testBit_eq_decide_div_mod_eq]
theorem xiQ (u n W:Nat) (hW:W≤64):numN (movF u n W 0 true) 64=u*2 ^ n%2 ^ W:=by
 apply Nat.eq_of_testBit_eq
 intro i
 rw [x8h (xad (by omega)),Nat.testBit_mod_two_pow,Nat.testBit_mul_two_pow,tb]
 unfold movF
 by_cases h1:i<W
 ·have h2:i<64:=by omega
  by_cases h3:n≤i<;>simp [h1,h2,h3]
 ·simp [h1]
theorem xac (u n W:Nat) (hW:W≤64):numN (movF u n W 0 false) 64=u%2 ^ W/2 ^ n:=by
 apply Nat.eq_of_testBit_eq
 intro i
 rw [x8h (xad (by omega)),Nat.testBit_div_two_pow,Nat.testBit_mod_two_pow,tb]
 unfold movF
 by_cases h1:i<W
 ·have h2:i<64:=by omega
  by_cases h3:i+n<W<;>simp [h1,h2,h3]
 ·have:¬ i+n<W:=by omega
  simp [h1,this]
theorem xfy (u n W:Nat) (hW:W≤64) (hn:n≤W):numN (movF u n W 1 false) 64=2 ^ (W-n)*(2 ^ n-1)+u%2 ^ W/2 ^ n:=by
 have hv:u%2 ^ W/2 ^ n<2 ^ (W-n):=by
  rw [Nat.div_lt_iff_lt_mul (Nat.two_pow_pos n),← Nat.pow_add,Nat.sub_add_cancel hn]
  exact Nat.mod_lt _ (Nat.two_pow_pos W)
 apply Nat.eq_of_testBit_eq
 intro i
 rw [x8h (xad (by omega)),Nat.testBit_two_pow_mul_add _ hv,Nat.testBit_div_two_pow,Nat.testBit_mod_two_pow,Nat.testBit_two_pow_sub_one,tb]
 unfold movF
 by_cases h1:i<W
 ·have h2:i<64:=by omega
  by_cases h3:i+n<W
  ·have h4:i<W-n:=by omega
   simp [h1,h2,h3,h4]
  ·have h4:¬ i<W-n:=by omega
   have h5:i-(W-n)<n:=by omega
   simp [h1,h2,h3,h4,h5]
 ·have h3:¬ i+n<W:=by omega
  have h4:¬ i<W-n:=by omega
  have h5:¬ i-(W-n)<n:=by omega
  simp [h1,h3,h4,h5]
theorem xeP {x y:Int} (h:x%18446744073709551616=y%18446744073709551616):w64 x=w64 y:=by
 rw [x4o,x4o]
 omega
theorem xd3 {x y:Int} (h:x%4294967296=y%4294967296):hlfI x=hlfI y:=by
 rw [x7C,x7C]
 omega
theorem xd2 (x:Int):hlfI (w64 x)=hlfI x:=xd3 (by rw [x4o];omega)
theorem x9h (a:Int):((uN a:Nat):Int)=a%18446744073709551616:=by unfold uN;omega
theorem x9B (a b n:Int):a%n*b%n=a*b%n:=by
 rw [Int.mul_emod,Int.emod_emod,← Int.mul_emod]
theorem x6G (a:Int) (n:Nat):w64 (numN (movF (uN a) n 64 0 true) 64:Nat)=w64 (a*2 ^ n):=by
 rw [xiQ _ _ _ (by omega)]
 apply xeP
 have e:(2:Int) ^ n=((2 ^ n:Nat):Int):=by simp
 rw [e,Int.natCast_emod,Int.natCast_mul,x9h,show (((2:Nat) ^ 64:Nat):Int)=18446744073709551616 from by decide,Int.emod_emod,x9B]
theorem x5b (a:Int) (n:Nat):hlfI (w64 (numN (movF (uN a) n 32 0 true) 64:Nat))=hlfI (w64 (a*2 ^ n)):=by
 rw [xiQ _ _ _ (by omega)]
 apply xd3
 have e:(2:Int) ^ n=((2 ^ n:Nat):Int):=by simp
 rw [x4o,x4o,e,Int.natCast_emod,Int.natCast_mul,x9h,show (((2:Nat) ^ 32:Nat):Int)=4294967296 from by decide]
 have h:a%18446744073709551616*((2 ^ n:Nat):Int)%18446744073709551616=a*((2 ^ n:Nat):Int)%18446744073709551616:=x9B _ _ _
 generalize a%18446744073709551616*((2 ^ n:Nat):Int)=P at *
 generalize a*((2 ^ n:Nat):Int)=Q at *
 omega
theorem x6E (a:Int) (n:Nat):w64 (numN (movF (uN a) n 64 0 false) 64:Nat)=w64 ((uN a/2 ^ n:Nat)):=by
 rw [xac _ _ _ (by omega),Nat.mod_eq_of_lt (x1u a)]
theorem x59 (a:Int) (n:Nat):hlfI (w64 (numN (movF (uN a) n 32 0 false) 64:Nat))=hlfI ((uN a%4294967296/2 ^ n:Nat)):=by
 rw [xac _ _ _ (by omega),show (2:Nat) ^ 32=4294967296 from by decide]
 have h1:=Nat.div_le_self (uN a%4294967296) (2 ^ n)
 have h2:uN a%4294967296<4294967296:=Nat.mod_lt _ (by decide)
 generalize uN a%4294967296/2 ^ n=q at *
 congr 1
 rw [x4o]
 omega
theorem xda (u W n:Nat) (hn:n≤W):(((u:Int)-(2 ^ W:Nat)).fdiv (2 ^ n))=((u/2 ^ n:Nat):Int)-(2 ^ (W-n):Nat):=by
 have e:(2:Int) ^ n=((2 ^ n:Nat):Int):=by simp
 have hp:=Nat.two_pow_pos n
 have ew:2 ^ W=2 ^ n*2 ^ (W-n):=by rw [← Nat.pow_add,Nat.add_sub_cancel' hn]
 rw [e,Int.fdiv_eq_ediv_of_nonneg _ (by omega),ew,Int.natCast_mul,show ((u:Int)-((2 ^ n:Nat):Int)*((2 ^ (W-n):Nat):Int))=(u:Int)+((2 ^ n:Nat):Int)*(-((2 ^ (W-n):Nat):Int)) by rw [Int.mul_neg];rfl,Int.add_mul_ediv_left _ _ (by omega)]
 simp
 omega
theorem x6F (a:Int) (n:Nat) (ha:I64 a) (hn:n<64):w64 (numN (movF (uN a) n 64 (uN a/2 ^ 63%2) false) 64:Nat)=a.fdiv (2 ^ n):=by
 have hu:=x1u a
 have ui:=x9h a
 unfold I64 at ha
 have hd:=Nat.div_le_self (uN a) (2 ^ n)
 have hp:=Nat.two_pow_pos n
 by_cases hs:a<0
 ·have h1:uN a/2 ^ 63%2=1:=by omega
  rw [h1,xfy _ _ _ (by omega) (by omega),Nat.mod_eq_of_lt hu]
  have ea:a=(uN a:Nat)-((2 ^ 64:Nat):Int):=by omega
  conv=>rhs;rw [ea]
  rw [xda _ _ _ (by omega)]
  have e3:2 ^ (64-n)*(2 ^ n-1)=2 ^ 64-2 ^ (64-n):=by
   rw [Nat.mul_sub,← Nat.pow_add,Nat.sub_add_cancel (by omega),Nat.mul_one]
  have e4:2 ^ (64-n)≤2 ^ 64:=Nat.pow_le_pow_right (by omega) (by omega)
  have e5:1≤2 ^ (64-n):=Nat.two_pow_pos _
  have e6:uN a/2 ^ n<2 ^ (64-n):=by
   rw [Nat.div_lt_iff_lt_mul hp,← Nat.pow_add,Nat.sub_add_cancel (by omega)];exact hu
  have e7:2 ^ (64-n)≤2*(uN a/2 ^ n):=by
   have:2 ^ (63-n)≤uN a/2 ^ n:=by
    rw [Nat.le_div_iff_mul_le hp,← Nat.pow_add,Nat.sub_add_cancel (by omega)];omega
   rw [show 64-n=(63-n)+1 by omega,Nat.pow_succ]
   omega
  rw [e3,x4o]
  generalize uN a/2 ^ n=q at *
  generalize 2 ^ (64-n)=t at *
  omega
 ·have h1:uN a/2 ^ 63%2=0:=by omega
  rw [h1,xac _ _ _ (by omega),Nat.mod_eq_of_lt hu]
  have ea:a=(uN a:Nat):=by omega
  conv=>rhs;rw [ea,x6Z]
  rw [x4o]
  generalize uN a/2 ^ n=q at *
  omega
theorem x5a (a:Int) (n:Nat) (hn:n<32):hlfI (w64 (numN (movF (uN a) n 32 (uN a/2 ^ 31%2) false) 64:Nat))=(hlfI a).fdiv (2 ^ n):=by
 have ui:=x9h a
 have hm:uN a%4294967296<4294967296:=Nat.mod_lt _ (by decide)
 have hd:=Nat.div_le_self (uN a%4294967296) (2 ^ n)
 have hp:=Nat.two_pow_pos n
 have hh:=x7C a
 by_cases hs:hlfI a<0
 ·have h1:uN a/2 ^ 31%2=1:=by omega
  rw [h1,xfy _ _ _ (by omega) (by omega),show (2:Nat) ^ 32=4294967296 from by decide]
  have ea:hlfI a=(uN a%4294967296:Nat)-((2 ^ 32:Nat):Int):=by omega
  conv=>rhs;rw [ea]
  rw [xda _ _ _ (by omega)]
  have e3:2 ^ (32-n)*(2 ^ n-1)=2 ^ 32-2 ^ (32-n):=by
   rw [Nat.mul_sub,← Nat.pow_add,Nat.sub_add_cancel (by omega),Nat.mul_one]
  have e4:2 ^ (32-n)≤2 ^ 32:=Nat.pow_le_pow_right (by omega) (by omega)
  have e5:1≤2 ^ (32-n):=Nat.two_pow_pos _
  have e6:uN a%4294967296/2 ^ n<2 ^ (32-n):=by
   rw [Nat.div_lt_iff_lt_mul hp,← Nat.pow_add,Nat.sub_add_cancel (by omega)];exact hm
  have e7:2 ^ (32-n)≤2*(uN a%4294967296/2 ^ n):=by
   have:2 ^ (31-n)≤uN a%4294967296/2 ^ n:=by
    rw [Nat.le_div_iff_mul_le hp,← Nat.pow_add,Nat.sub_add_cancel (by omega)];omega
   rw [show 32-n=(31-n)+1 by omega,Nat.pow_succ]
   omega
  have hX:2 ^ 32-2 ^ (32-n)+uN a%4294967296/2 ^ n=4294967296-2 ^ (32-n)+uN a%4294967296/2 ^ n:=rfl
  rw [e3,xd2,x7C]
  clear ea hh ui hm hd hp hX e3 h1 hs
  generalize uN a%4294967296/2 ^ n=q at *
  generalize 2 ^ (32-n)=t at *
  omega
 ·have h1:uN a/2 ^ 31%2=0:=by omega
  rw [h1,xac _ _ _ (by omega),show (2:Nat) ^ 32=4294967296 from by decide]
  have ea:hlfI a=(uN a%4294967296:Nat):=by omega
  conv=>rhs;rw [ea,x6Z]
  rw [xd2,x7C]
  have hq:uN a%4294967296<2147483648:=by omega
  clear ea hh ui hp h1 hs
  generalize uN a%4294967296/2 ^ n=q at *
  omega
end
section
theorem xkC (s:ByteArray) (a:List UInt8):(s.toList==(⟨a.toArray⟩:ByteArray).toList)=decide (s.data.toList=a):=by
 rw [ByteArray.toList_eq,ByteArray.toList_eq]
 by_cases h:s.data.toList=a
 ·rw [h];simp
 ·rw [beq_eq_false_iff_ne.2 h,decide_eq_false h]
theorem x2h (a b:List UInt8):zE .eql ⟨a.toArray⟩ ⟨b.toArray⟩=some (.bool (decide (a=b))):=by
 simp only [zE,xkC]
theorem x7S (a b:Int):w64 ((uN a*uN b%18446744073709551616:Nat):Int)=w64 (a*b):=by
 apply xeP
 rw [Int.natCast_emod,Int.natCast_mul,x9h,x9h,show ((18446744073709551616:Nat):Int)=18446744073709551616 from rfl,Int.emod_emod,← Int.mul_emod]
theorem ldEp {h:Heap} {n:Option Nat} {cs:List V} {off:Nat}:zl h n (.eptr cs off)=zb n cs off:=rfl
def namT:List (List V):=[[.sc (.string ⟨#[108,117,105]⟩)],[.sc (.string ⟨#[97,117,105,112,99]⟩)],[.sc (.string ⟨#[106,97,108]⟩)],[.sc (.string ⟨#[106,97,108,114]⟩)],[.sc (.string ⟨#[98,101,113]⟩)],[.sc (.string ⟨#[98,110,101]⟩)],[.sc (.string ⟨#[98,108,116]⟩)],[.sc (.string ⟨#[98,103,101]⟩)],[.sc (.string ⟨#[98,108,116,117]⟩)],[.sc (.string ⟨#[98,103,101,117]⟩)],[.sc (.string ⟨#[108,98]⟩)],[.sc (.string ⟨#[108,104]⟩)],[.sc (.string ⟨#[108,119]⟩)],[.sc (.string ⟨#[108,100]⟩)],[.sc (.string ⟨#[108,98,117]⟩)],[.sc (.string ⟨#[108,104,117]⟩)],[.sc (.string ⟨#[108,119,117]⟩)],[.sc (.string ⟨#[115,98]⟩)],[.sc (.string ⟨#[115,104]⟩)],[.sc (.string ⟨#[115,119]⟩)],[.sc (.string ⟨#[115,100]⟩)],[.sc (.string ⟨#[97,100,100,105]⟩)],[.sc (.string ⟨#[115,108,116,105]⟩)],[.sc (.string ⟨#[115,108,116,105,117]⟩)],[.sc (.string ⟨#[120,111,114,105]⟩)],[.sc (.string ⟨#[111,114,105]⟩)],[.sc (.string ⟨#[97,110,100,105]⟩)],[.sc (.string ⟨#[115,108,108,105]⟩)],[.sc (.string ⟨#[115,114,108,105]⟩)],[.sc (.string ⟨#[115,114,97,105]⟩)],[.sc (.string ⟨#[97,100,100,105,119]⟩)],[.sc (.string ⟨#[115,108,108,105,119]⟩)],[.sc (.string ⟨#[115,114,108,105,119]⟩)],[.sc (.string ⟨#[115,114,97,105,119]⟩)],[.sc (.string ⟨#[97,100,100]⟩)],[.sc (.string ⟨#[115,117,98]⟩)],[.sc (.string ⟨#[115,108,108]⟩)],[.sc (.string ⟨#[115,108,116]⟩)],[.sc (.string ⟨#[115,108,116,117]⟩)],[.sc (.string ⟨#[120,111,114]⟩)],[.sc (.string ⟨#[115,114,108]⟩)],[.sc (.string ⟨#[115,114,97]⟩)],[.sc (.string ⟨#[111,114]⟩)],[.sc (.string ⟨#[97,110,100]⟩)],[.sc (.string ⟨#[97,100,100,119]⟩)],[.sc (.string ⟨#[115,117,98,119]⟩)],[.sc (.string ⟨#[115,108,108,119]⟩)],[.sc (.string ⟨#[115,114,108,119]⟩)],[.sc (.string ⟨#[115,114,97,119]⟩)],[.sc (.string ⟨#[109,117,108]⟩)],[.sc (.string ⟨#[109,117,108,104]⟩)],[.sc (.string ⟨#[109,117,108,104,115,117]⟩)],[.sc (.string ⟨#[109,117,108,104,117]⟩)],[.sc (.string ⟨#[100,105,118]⟩)],[.sc (.string ⟨#[100,105,118,117]⟩)],[.sc (.string ⟨#[114,101,109]⟩)],[.sc (.string ⟨#[114,101,109,117]⟩)],[.sc (.string ⟨#[109,117,108,119]⟩)],[.sc (.string ⟨#[100,105,118,119]⟩)],[.sc (.string ⟨#[100,105,118,117,119]⟩)],[.sc (.string ⟨#[114,101,109,119]⟩)],[.sc (.string ⟨#[114,101,109,117,119]⟩)],[.sc (.string ⟨#[102,101,110,99,101]⟩)],[.sc (.string ⟨#[101,99,97,108,108]⟩)],[.sc (.string ⟨#[101,98,114,101,97,107]⟩)],[.sc (.string ⟨#[108,114,46,119]⟩)],[.sc (.string ⟨#[115,99,46,119]⟩)],[.sc (.string ⟨#[97,109,111,115,119,97,112,46,119]⟩)],[.sc (.string ⟨#[97,109,111,97,100,100,46,119]⟩)],[.sc (.string ⟨#[97,109,111,120,111,114,46,119]⟩)],[.sc (.string ⟨#[97,109,111,97,110,100,46,119]⟩)],[.sc (.string ⟨#[97,109,111,111,114,46,119]⟩)],[.sc (.string ⟨#[97,109,111,109,105,110,46,119]⟩)],[.sc (.string ⟨#[97,109,111,109,97,120,46,119]⟩)],[.sc (.string ⟨#[97,109,111,109,105,110,117,46,119]⟩)],[.sc (.string ⟨#[97,109,111,109,97,120,117,46,119]⟩)],[.sc (.string ⟨#[108,114,46,100]⟩)],[.sc (.string ⟨#[115,99,46,100]⟩)],[.sc (.string ⟨#[97,109,111,115,119,97,112,46,100]⟩)],[.sc (.string ⟨#[97,109,111,97,100,100,46,100]⟩)],[.sc (.string ⟨#[97,109,111,120,111,114,46,100]⟩)],[.sc (.string ⟨#[97,109,111,97,110,100,46,100]⟩)],[.sc (.string ⟨#[97,109,111,111,114,46,100]⟩)],[.sc (.string ⟨#[97,109,111,109,105,110,46,100]⟩)],[.sc (.string ⟨#[97,109,111,109,97,120,46,100]⟩)],[.sc (.string ⟨#[97,109,111,109,105,110,117,46,100]⟩)],[.sc (.string ⟨#[97,109,111,109,97,120,117,46,100]⟩)]]
set_option maxRecDepth 100000 in
theorem xhC {base:Nat} (h:Heap):WpF S0 base x5V [] h fun v h'=>v=.slc .lit 1 namT∧h'=h:=by
 have e:zv 1 (List.replicate 87 [(.sc (.string ⟨#[]⟩))]) [(0,((.sc (.string ⟨#[108,117,105]⟩)))),(1,((.sc (.string ⟨#[97,117,105,112,99]⟩)))),(2,((.sc (.string ⟨#[106,97,108]⟩)))),(3,((.sc (.string ⟨#[106,97,108,114]⟩)))),(4,((.sc (.string ⟨#[98,101,113]⟩)))),(5,((.sc (.string ⟨#[98,110,101]⟩)))),(6,((.sc (.string ⟨#[98,108,116]⟩)))),(7,((.sc (.string ⟨#[98,103,101]⟩)))),(8,((.sc (.string ⟨#[98,108,116,117]⟩)))),(9,((.sc (.string ⟨#[98,103,101,117]⟩)))),(10,((.sc (.string ⟨#[108,98]⟩)))),(11,((.sc (.string ⟨#[108,104]⟩)))),(12,((.sc (.string ⟨#[108,119]⟩)))),(13,((.sc (.string ⟨#[108,100]⟩)))),(14,((.sc (.string ⟨#[108,98,117]⟩)))),(15,((.sc (.string ⟨#[108,104,117]⟩)))),(16,((.sc (.string ⟨#[108,119,117]⟩)))),(17,((.sc (.string ⟨#[115,98]⟩)))),(18,((.sc (.string ⟨#[115,104]⟩)))),(19,((.sc (.string ⟨#[115,119]⟩)))),(20,((.sc (.string ⟨#[115,100]⟩)))),(21,((.sc (.string ⟨#[97,100,100,105]⟩)))),(22,((.sc (.string ⟨#[115,108,116,105]⟩)))),(23,((.sc (.string ⟨#[115,108,116,105,117]⟩)))),(24,((.sc (.string ⟨#[120,111,114,105]⟩)))),(25,((.sc (.string ⟨#[111,114,105]⟩)))),(26,((.sc (.string ⟨#[97,110,100,105]⟩)))),(27,((.sc (.string ⟨#[115,108,108,105]⟩)))),(28,((.sc (.string ⟨#[115,114,108,105]⟩)))),(29,((.sc (.string ⟨#[115,114,97,105]⟩)))),(30,((.sc (.string ⟨#[97,100,100,105,119]⟩)))),(31,((.sc (.string ⟨#[115,108,108,105,119]⟩)))),(32,((.sc (.string ⟨#[115,114,108,105,119]⟩)))),(33,((.sc (.string ⟨#[115,114,97,105,119]⟩)))),(34,((.sc (.string ⟨#[97,100,100]⟩)))),(35,((.sc (.string ⟨#[115,117,98]⟩)))),(36,((.sc (.string ⟨#[115,108,108]⟩)))),(37,((.sc (.string ⟨#[115,108,116]⟩)))),(38,((.sc (.string ⟨#[115,108,116,117]⟩)))),(39,((.sc (.string ⟨#[120,111,114]⟩)))),(40,((.sc (.string ⟨#[115,114,108]⟩)))),(41,((.sc (.string ⟨#[115,114,97]⟩)))),(42,((.sc (.string ⟨#[111,114]⟩)))),(43,((.sc (.string ⟨#[97,110,100]⟩)))),(44,((.sc (.string ⟨#[97,100,100,119]⟩)))),(45,((.sc (.string ⟨#[115,117,98,119]⟩)))),(46,((.sc (.string ⟨#[115,108,108,119]⟩)))),(47,((.sc (.string ⟨#[115,114,108,119]⟩)))),(48,((.sc (.string ⟨#[115,114,97,119]⟩)))),(49,((.sc (.string ⟨#[109,117,108]⟩)))),(50,((.sc (.string ⟨#[109,117,108,104]⟩)))),(51,((.sc (.string ⟨#[109,117,108,104,115,117]⟩)))),(52,((.sc (.string ⟨#[109,117,108,104,117]⟩)))),(53,((.sc (.string ⟨#[100,105,118]⟩)))),(54,((.sc (.string ⟨#[100,105,118,117]⟩)))),(55,((.sc (.string ⟨#[114,101,109]⟩)))),(56,((.sc (.string ⟨#[114,101,109,117]⟩)))),(57,((.sc (.string ⟨#[109,117,108,119]⟩)))),(58,((.sc (.string ⟨#[100,105,118,119]⟩)))),(59,((.sc (.string ⟨#[100,105,118,117,119]⟩)))),(60,((.sc (.string ⟨#[114,101,109,119]⟩)))),(61,((.sc (.string ⟨#[114,101,109,117,119]⟩)))),(62,((.sc (.string ⟨#[102,101,110,99,101]⟩)))),(63,((.sc (.string ⟨#[101,99,97,108,108]⟩)))),(64,((.sc (.string ⟨#[101,98,114,101,97,107]⟩)))),(65,((.sc (.string ⟨#[108,114,46,119]⟩)))),(66,((.sc (.string ⟨#[115,99,46,119]⟩)))),(67,((.sc (.string ⟨#[97,109,111,115,119,97,112,46,119]⟩)))),(68,((.sc (.string ⟨#[97,109,111,97,100,100,46,119]⟩)))),(69,((.sc (.string ⟨#[97,109,111,120,111,114,46,119]⟩)))),(70,((.sc (.string ⟨#[97,109,111,97,110,100,46,119]⟩)))),(71,((.sc (.string ⟨#[97,109,111,111,114,46,119]⟩)))),(72,((.sc (.string ⟨#[97,109,111,109,105,110,46,119]⟩)))),(73,((.sc (.string ⟨#[97,109,111,109,97,120,46,119]⟩)))),(74,((.sc (.string ⟨#[97,109,111,109,105,110,117,46,119]⟩)))),(75,((.sc (.string ⟨#[97,109,111,109,97,120,117,46,119]⟩)))),(76,((.sc (.string ⟨#[108,114,46,100]⟩)))),(77,((.sc (.string ⟨#[115,99,46,100]⟩)))),(78,((.sc (.string ⟨#[97,109,111,115,119,97,112,46,100]⟩)))),(79,((.sc (.string ⟨#[97,109,111,97,100,100,46,100]⟩)))),(80,((.sc (.string ⟨#[97,109,111,120,111,114,46,100]⟩)))),(81,((.sc (.string ⟨#[97,109,111,97,110,100,46,100]⟩)))),(82,((.sc (.string ⟨#[97,109,111,111,114,46,100]⟩)))),(83,((.sc (.string ⟨#[97,109,111,109,105,110,46,100]⟩)))),(84,((.sc (.string ⟨#[97,109,111,109,97,120,46,100]⟩)))),(85,((.sc (.string ⟨#[97,109,111,109,105,110,117,46,100]⟩)))),(86,((.sc (.string ⟨#[97,109,111,109,97,120,117,46,100]⟩))))]=some namT:=rfl
 first | refine zu (A:=x0Z) rfl rfl rfl rfl ?_ | refine zB (A:=x0Z) rfl rfl rfl rfl ?_
 simp only [x0Z,oD,cD,τ,φ,ι]
 have ag:(namT.all fun r=>r.all x1h)=true:=rfl
 simp only [SQ,SQB,zm,AOp.opds,step,Opd.get,zk,bin,zzc,IntKind.signed,zi,zj,zl,zb,unary,ze,zd,za,zo,zr,zh,zf,zg,zp,Cp.isFull,isNil,zq,simprocAttr,-List.reduceReplicate,SQX,V.cells,x0J,e,ag,List.take_length,Nat.le_refl]
theorem x0I {base:Nat} (op:Nat) (h1:1≤op) (h2:op≤87) (s:ByteArray) (hn:namT[op-1]?=some [.sc (.string s)]) (h:Heap):WpF S0 base x09 [V.int op] h fun v h'=>v=.sc (.string s)∧h'=h:=by
 have hc:=fun base h=>xhC (base:=base) h
 have w:IntKind.i64.wrap ((op:Int)-1)=((op-1:Nat):Int):=by rw [x08 (by omega) (by omega)];omega
 have c1:¬ (op:Int)<1:=by omega
 have c2:¬ (87:Int)<op:=by omega
 have ix:zi h 1 (op-1) (.slc .lit 1 namT)=some (.eptr [.sc (.string s)] 0):=by simp [zi,hn]
 first | refine zu (A:=x1b) rfl rfl rfl rfl ?_ | refine zB (A:=x1b) rfl rfl rfl rfl ?_
 simp only [x1b,oD,cD,τ,φ,ι]
 simp only [SQ,SQB,zm,AOp.opds,step,Opd.get,zk,bin,zzc,IntKind.signed,zj,zl,zb,unary,ze,zd,za,zo,zr,zh,zf,zg,zp,Cp.isFull,isNil,zq,simprocAttr,-List.reduceReplicate,SQX,V.cells,c1,c2,w,zn (hc _ _),ix,ldEp,List.take_length,Nat.le_refl]
theorem xhp {base:Nat} (a b:Int) (ha:I64 a) (hb:I64 b) (h:Heap):WpF S0 base x0z [.sc (.string ⟨#[109,117,108]⟩),.sc (.int .i64 a),.sc (.int .i64 b)] h fun v h'=>v=.sc (.int .i64 (w64 (a*b)))∧h'=h:=by
 have c1:=fun base h=>x45 (base:=base) a b ha hb h
 have c2:=fun base h=>x2W (base:=base) (uN a) (uN b) (x1u a) h
 have c3:=fun base sa sb h=>x50 (base:=base) a b sa sb ha hb h
 have c4:=fun base h=>x5Q (base:=base) (uN a) (uN b) (x1u a) (x1u b) h
 first | refine zu (A:=x07) rfl rfl rfl rfl ?_ | refine zB (A:=x07) rfl rfl rfl rfl ?_
 simp only [x07,oD,cD,τ,φ,ι]
 simp only [SQ,SQB,zm,AOp.opds,step,Opd.get,zk,bin,zzc,IntKind.signed,zi,zj,zl,zb,unary,ze,zd,za,zo,zr,zh,zf,zg,zp,Cp.isFull,isNil,zq,simprocAttr,-List.reduceReplicate,SQX,V.cells,x2h,List.cons.injEq,x0d,zn (c1 _ _),zn (c2 _ _),zn (c3 _ _ _ _),zn (c4 _ _),x7S,List.take_length,Nat.le_refl]
theorem xfi {base:Nat} (a b:Int) (ha:I64 a) (hb:I64 b) (h:Heap):WpF S0 base x0z [.sc (.string ⟨#[109,117,108,104]⟩),.sc (.int .i64 a),.sc (.int .i64 b)] h fun v h'=>v=.sc (.int .i64 (x5q a b true true))∧h'=h:=by
 have c1:=fun base h=>x45 (base:=base) a b ha hb h
 have c2:=fun base h=>x2W (base:=base) (uN a) (uN b) (x1u a) h
 have c3:=fun base sa sb h=>x50 (base:=base) a b sa sb ha hb h
 have c4:=fun base h=>x5Q (base:=base) (uN a) (uN b) (x1u a) (x1u b) h
 first | refine zu (A:=x07) rfl rfl rfl rfl ?_ | refine zB (A:=x07) rfl rfl rfl rfl ?_
 simp only [x07,oD,cD,τ,φ,ι]
 simp only [SQ,SQB,zm,AOp.opds,step,Opd.get,zk,bin,zzc,IntKind.signed,zi,zj,zl,zb,unary,ze,zd,za,zo,zr,zh,zf,zg,zp,Cp.isFull,isNil,zq,simprocAttr,-List.reduceReplicate,SQX,V.cells,x2h,List.cons.injEq,x0d,zn (c1 _ _),zn (c2 _ _),zn (c3 _ _ _ _),zn (c4 _ _),x7S,List.take_length,Nat.le_refl]
theorem xbI {base:Nat} (a b:Int) (ha:I64 a) (hb:I64 b) (h:Heap):WpF S0 base x0z [.sc (.string ⟨#[109,117,108,104,115,117]⟩),.sc (.int .i64 a),.sc (.int .i64 b)] h fun v h'=>v=.sc (.int .i64 (x5q a b true false))∧h'=h:=by
 have c1:=fun base h=>x45 (base:=base) a b ha hb h
 have c2:=fun base h=>x2W (base:=base) (uN a) (uN b) (x1u a) h
 have c3:=fun base sa sb h=>x50 (base:=base) a b sa sb ha hb h
 have c4:=fun base h=>x5Q (base:=base) (uN a) (uN b) (x1u a) (x1u b) h
 first | refine zu (A:=x07) rfl rfl rfl rfl ?_ | refine zB (A:=x07) rfl rfl rfl rfl ?_
 simp only [x07,oD,cD,τ,φ,ι]
 simp only [SQ,SQB,zm,AOp.opds,step,Opd.get,zk,bin,zzc,IntKind.signed,zi,zj,zl,zb,unary,ze,zd,za,zo,zr,zh,zf,zg,zp,Cp.isFull,isNil,zq,simprocAttr,-List.reduceReplicate,SQX,V.cells,x2h,List.cons.injEq,x0d,zn (c1 _ _),zn (c2 _ _),zn (c3 _ _ _ _),zn (c4 _ _),x7S,List.take_length,Nat.le_refl]
theorem xdP {base:Nat} (a b:Int) (ha:I64 a) (hb:I64 b) (h:Heap):WpF S0 base x0z [.sc (.string ⟨#[109,117,108,104,117]⟩),.sc (.int .i64 a),.sc (.int .i64 b)] h fun v h'=>v=.sc (.int .i64 (x5q a b false false))∧h'=h:=by
 have c1:=fun base h=>x45 (base:=base) a b ha hb h
 have c2:=fun base h=>x2W (base:=base) (uN a) (uN b) (x1u a) h
 have c3:=fun base sa sb h=>x50 (base:=base) a b sa sb ha hb h
 have c4:=fun base h=>x5Q (base:=base) (uN a) (uN b) (x1u a) (x1u b) h
 first | refine zu (A:=x07) rfl rfl rfl rfl ?_ | refine zB (A:=x07) rfl rfl rfl rfl ?_
 simp only [x07,oD,cD,τ,φ,ι]
 simp only [SQ,SQB,zm,AOp.opds,step,Opd.get,zk,bin,zzc,IntKind.signed,zi,zj,zl,zb,unary,ze,zd,za,zo,zr,zh,zf,zg,zp,Cp.isFull,isNil,zq,simprocAttr,-List.reduceReplicate,SQX,V.cells,x2h,List.cons.injEq,x0d,zn (c1 _ _),zn (c2 _ _),zn (c3 _ _ _ _),zn (c4 _ _),x7S,List.take_length,Nat.le_refl]
theorem xhq {base:Nat} (a b:Int) (ha:I64 a) (hb:I64 b) (h:Heap):WpF S0 base x0z [.sc (.string ⟨#[100,105,118]⟩),.sc (.int .i64 a),.sc (.int .i64 b)] h fun v h'=>v=.sc (.int .i64 (quoI a b))∧h'=h:=by
 have c1:=fun base h=>x45 (base:=base) a b ha hb h
 have c2:=fun base h=>x2W (base:=base) (uN a) (uN b) (x1u a) h
 have c3:=fun base sa sb h=>x50 (base:=base) a b sa sb ha hb h
 have c4:=fun base h=>x5Q (base:=base) (uN a) (uN b) (x1u a) (x1u b) h
 first | refine zu (A:=x07) rfl rfl rfl rfl ?_ | refine zB (A:=x07) rfl rfl rfl rfl ?_
 simp only [x07,oD,cD,τ,φ,ι]
 simp only [SQ,SQB,zm,AOp.opds,step,Opd.get,zk,bin,zzc,IntKind.signed,zi,zj,zl,zb,unary,ze,zd,za,zo,zr,zh,zf,zg,zp,Cp.isFull,isNil,zq,simprocAttr,-List.reduceReplicate,SQX,V.cells,x2h,List.cons.injEq,x0d,zn (c1 _ _),zn (c2 _ _),zn (c3 _ _ _ _),zn (c4 _ _),x7S,List.take_length,Nat.le_refl]
theorem xfj {base:Nat} (a b:Int) (ha:I64 a) (hb:I64 b) (h:Heap):WpF S0 base x0z [.sc (.string ⟨#[100,105,118,117]⟩),.sc (.int .i64 a),.sc (.int .i64 b)] h fun v h'=>v=.sc (.int .i64 (quoU (uN a) (uN b)))∧h'=h:=by
 have c1:=fun base h=>x45 (base:=base) a b ha hb h
 have c2:=fun base h=>x2W (base:=base) (uN a) (uN b) (x1u a) h
 have c3:=fun base sa sb h=>x50 (base:=base) a b sa sb ha hb h
 have c4:=fun base h=>x5Q (base:=base) (uN a) (uN b) (x1u a) (x1u b) h
 first | refine zu (A:=x07) rfl rfl rfl rfl ?_ | refine zB (A:=x07) rfl rfl rfl rfl ?_
 simp only [x07,oD,cD,τ,φ,ι]
 simp only [SQ,SQB,zm,AOp.opds,step,Opd.get,zk,bin,zzc,IntKind.signed,zi,zj,zl,zb,unary,ze,zd,za,zo,zr,zh,zf,zg,zp,Cp.isFull,isNil,zq,simprocAttr,-List.reduceReplicate,SQX,V.cells,x2h,List.cons.injEq,x0d,zn (c1 _ _),zn (c2 _ _),zn (c3 _ _ _ _),zn (c4 _ _),x7S,List.take_length,Nat.le_refl]
theorem xho {base:Nat} (a b:Int) (ha:I64 a) (hb:I64 b) (h:Heap):WpF S0 base x0z [.sc (.string ⟨#[114,101,109]⟩),.sc (.int .i64 a),.sc (.int .i64 b)] h fun v h'=>v=.sc (.int .i64 (remI a b))∧h'=h:=by
 have c1:=fun base h=>x45 (base:=base) a b ha hb h
 have c2:=fun base h=>x2W (base:=base) (uN a) (uN b) (x1u a) h
 have c3:=fun base sa sb h=>x50 (base:=base) a b sa sb ha hb h
 have c4:=fun base h=>x5Q (base:=base) (uN a) (uN b) (x1u a) (x1u b) h
 first | refine zu (A:=x07) rfl rfl rfl rfl ?_ | refine zB (A:=x07) rfl rfl rfl rfl ?_
 simp only [x07,oD,cD,τ,φ,ι]
 simp only [SQ,SQB,zm,AOp.opds,step,Opd.get,zk,bin,zzc,IntKind.signed,zi,zj,zl,zb,unary,ze,zd,za,zo,zr,zh,zf,zg,zp,Cp.isFull,isNil,zq,simprocAttr,-List.reduceReplicate,SQX,V.cells,x2h,List.cons.injEq,x0d,zn (c1 _ _),zn (c2 _ _),zn (c3 _ _ _ _),zn (c4 _ _),x7S,List.take_length,Nat.le_refl]
theorem xfh {base:Nat} (a b:Int) (ha:I64 a) (hb:I64 b) (h:Heap):WpF S0 base x0z [.sc (.string ⟨#[114,101,109,117]⟩),.sc (.int .i64 a),.sc (.int .i64 b)] h fun v h'=>v=.sc (.int .i64 (remU (uN a) (uN b)))∧h'=h:=by
 have c1:=fun base h=>x45 (base:=base) a b ha hb h
 have c2:=fun base h=>x2W (base:=base) (uN a) (uN b) (x1u a) h
 have c3:=fun base sa sb h=>x50 (base:=base) a b sa sb ha hb h
 have c4:=fun base h=>x5Q (base:=base) (uN a) (uN b) (x1u a) (x1u b) h
 first | refine zu (A:=x07) rfl rfl rfl rfl ?_ | refine zB (A:=x07) rfl rfl rfl rfl ?_
 simp only [x07,oD,cD,τ,φ,ι]
 simp only [SQ,SQB,zm,AOp.opds,step,Opd.get,zk,bin,zzc,IntKind.signed,zi,zj,zl,zb,unary,ze,zd,za,zo,zr,zh,zf,zg,zp,Cp.isFull,isNil,zq,simprocAttr,-List.reduceReplicate,SQX,V.cells,x2h,List.cons.injEq,x0d,zn (c1 _ _),zn (c2 _ _),zn (c3 _ _ _ _),zn (c4 _ _),x7S,List.take_length,Nat.le_refl]
theorem xdL {base:Nat} (a b:Int) (h:Heap):WpF S0 base x0t [.sc (.string ⟨#[97,100,100,119]⟩),.sc (.int .i64 a),.sc (.int .i64 b)] h fun v h'=>v=.sc (.int .i64 (hlfI (w64 (a+b))))∧h'=h:=by
 have c0:=fun base n h=>x5f (base:=base) n h
 have c1:=fun base h=>x45 (base:=base) (hlfI a) (hlfI b) (x2i a) (x2i b) h
 have c2:=fun base h=>x2W (base:=base) (uN a%4294967296) (uN b%4294967296) (by omega) h
 have n1:(((uN b:Nat):Int)).tmod 32=((uN b%32:Nat):Int):=x1s (uN b) 32
 have n2:(((uN a:Nat):Int)).tmod 4294967296=((uN a%4294967296:Nat):Int):=x1s (uN a) 4294967296
 have n3:(((uN b:Nat):Int)).tmod 4294967296=((uN b%4294967296:Nat):Int):=x1s (uN b) 4294967296
 have hl:uN b%32<32:=Nat.mod_lt _ (by decide)
 have n4:IntKind.i64.wrap ((uN b%32:Nat):Int)=((uN b%32:Nat):Int):=x08 (by omega) (by omega)
 have cb:∀ base h,WpF S0 base x0b [U64 (uN a),.sc (.int .i64 31)] h fun r h'=>r=V.int ((uN a/2 ^ 31%2:Nat):Int)∧h'=h:=fun base h=>x2X (uN a) 31 h (x1u a) (by decide)
 have m1:∀ base h,WpF S0 base x04 [.sc (.int .i64 a),V.int (uN b%32:Nat),.bool true,.sc (.int .i64 0),.sc (.int .i64 32)] h fun v h'=>v=.sc (.int .i64 (w64 (numN (movF (uN a) (uN b%32) 32 0 true) 64:Nat)))∧h'=h:=fun base h=>x0m a (uN b%32) 32 0 true (by omega) (by omega) (by omega) h
 have m2:∀ base h,WpF S0 base x04 [.sc (.int .i64 a),V.int (uN b%32:Nat),.bool false,.sc (.int .i64 0),.sc (.int .i64 32)] h fun v h'=>v=.sc (.int .i64 (w64 (numN (movF (uN a) (uN b%32) 32 0 false) 64:Nat)))∧h'=h:=fun base h=>x0m a (uN b%32) 32 0 false (by omega) (by omega) (by omega) h
 have m3:∀ base h,WpF S0 base x04 [.sc (.int .i64 a),V.int (uN b%32:Nat),.bool false,V.int (uN a/2 ^ 31%2:Nat),.sc (.int .i64 32)] h fun v h'=>v=.sc (.int .i64 (w64 (numN (movF (uN a) (uN b%32) 32 (uN a/2 ^ 31%2) false) 64:Nat)))∧h'=h:=fun base h=>x0m a (uN b%32) 32 (uN a/2 ^ 31%2) false (by omega) (by omega) (by omega) h
 have q1:=x5b a (uN b%32)
 have q2:=x59 a (uN b%32)
 have q3:=x5a a (uN b%32) hl
 generalize hB:uN a/2 ^ 31%2=B at *
 first | refine zu (A:=x05) rfl rfl rfl rfl ?_ | refine zB (A:=x05) rfl rfl rfl rfl ?_
 simp only [x05,oD,cD,τ,φ,ι]
 simp only [SQ,SQB,zm,AOp.opds,step,Opd.get,zk,bin,zzc,IntKind.signed,zi,zj,zl,zb,unary,ze,zd,za,zo,zr,zh,zf,zg,zp,Cp.isFull,isNil,zq,simprocAttr,-List.reduceReplicate,SQX,V.cells,x2h,List.cons.injEq,x0d,n1,n2,n3,n4,zn (c0 _ _ _),zn (c1 _ _),zn (c2 _ _),zn (cb _ _),zn (m1 _ _),zn (m2 _ _),zn (m3 _ _),q1,q2,q3,List.take_length,Nat.le_refl]
theorem xdE {base:Nat} (a b:Int) (h:Heap):WpF S0 base x0t [.sc (.string ⟨#[115,117,98,119]⟩),.sc (.int .i64 a),.sc (.int .i64 b)] h fun v h'=>v=.sc (.int .i64 (hlfI (w64 (a-b))))∧h'=h:=by
 have c0:=fun base n h=>x5f (base:=base) n h
 have c1:=fun base h=>x45 (base:=base) (hlfI a) (hlfI b) (x2i a) (x2i b) h
 have c2:=fun base h=>x2W (base:=base) (uN a%4294967296) (uN b%4294967296) (by omega) h
 have n1:(((uN b:Nat):Int)).tmod 32=((uN b%32:Nat):Int):=x1s (uN b) 32
 have n2:(((uN a:Nat):Int)).tmod 4294967296=((uN a%4294967296:Nat):Int):=x1s (uN a) 4294967296
 have n3:(((uN b:Nat):Int)).tmod 4294967296=((uN b%4294967296:Nat):Int):=x1s (uN b) 4294967296
 have hl:uN b%32<32:=Nat.mod_lt _ (by decide)
 have n4:IntKind.i64.wrap ((uN b%32:Nat):Int)=((uN b%32:Nat):Int):=x08 (by omega) (by omega)
 have cb:∀ base h,WpF S0 base x0b [U64 (uN a),.sc (.int .i64 31)] h fun r h'=>r=V.int ((uN a/2 ^ 31%2:Nat):Int)∧h'=h:=fun base h=>x2X (uN a) 31 h (x1u a) (by decide)
 have m1:∀ base h,WpF S0 base x04 [.sc (.int .i64 a),V.int (uN b%32:Nat),.bool true,.sc (.int .i64 0),.sc (.int .i64 32)] h fun v h'=>v=.sc (.int .i64 (w64 (numN (movF (uN a) (uN b%32) 32 0 true) 64:Nat)))∧h'=h:=fun base h=>x0m a (uN b%32) 32 0 true (by omega) (by omega) (by omega) h
 have m2:∀ base h,WpF S0 base x04 [.sc (.int .i64 a),V.int (uN b%32:Nat),.bool false,.sc (.int .i64 0),.sc (.int .i64 32)] h fun v h'=>v=.sc (.int .i64 (w64 (numN (movF (uN a) (uN b%32) 32 0 false) 64:Nat)))∧h'=h:=fun base h=>x0m a (uN b%32) 32 0 false (by omega) (by omega) (by omega) h
 have m3:∀ base h,WpF S0 base x04 [.sc (.int .i64 a),V.int (uN b%32:Nat),.bool false,V.int (uN a/2 ^ 31%2:Nat),.sc (.int .i64 32)] h fun v h'=>v=.sc (.int .i64 (w64 (numN (movF (uN a) (uN b%32) 32 (uN a/2 ^ 31%2) false) 64:Nat)))∧h'=h:=fun base h=>x0m a (uN b%32) 32 (uN a/2 ^ 31%2) false (by omega) (by omega) (by omega) h
 have q1:=x5b a (uN b%32)
 have q2:=x59 a (uN b%32)
 have q3:=x5a a (uN b%32) hl
 generalize hB:uN a/2 ^ 31%2=B at *
 first | refine zu (A:=x05) rfl rfl rfl rfl ?_ | refine zB (A:=x05) rfl rfl rfl rfl ?_
 simp only [x05,oD,cD,τ,φ,ι]
 simp only [SQ,SQB,zm,AOp.opds,step,Opd.get,zk,bin,zzc,IntKind.signed,zi,zj,zl,zb,unary,ze,zd,za,zo,zr,zh,zf,zg,zp,Cp.isFull,isNil,zq,simprocAttr,-List.reduceReplicate,SQX,V.cells,x2h,List.cons.injEq,x0d,n1,n2,n3,n4,zn (c0 _ _ _),zn (c1 _ _),zn (c2 _ _),zn (cb _ _),zn (m1 _ _),zn (m2 _ _),zn (m3 _ _),q1,q2,q3,List.take_length,Nat.le_refl]
theorem xdH {base:Nat} (a b:Int) (h:Heap):WpF S0 base x0t [.sc (.string ⟨#[115,108,108,119]⟩),.sc (.int .i64 a),.sc (.int .i64 b)] h fun v h'=>v=.sc (.int .i64 (hlfI (w64 (a*2 ^ (uN b%32)))))∧h'=h:=by
 have c0:=fun base n h=>x5f (base:=base) n h
 have c1:=fun base h=>x45 (base:=base) (hlfI a) (hlfI b) (x2i a) (x2i b) h
 have c2:=fun base h=>x2W (base:=base) (uN a%4294967296) (uN b%4294967296) (by omega) h
 have n1:(((uN b:Nat):Int)).tmod 32=((uN b%32:Nat):Int):=x1s (uN b) 32
 have n2:(((uN a:Nat):Int)).tmod 4294967296=((uN a%4294967296:Nat):Int):=x1s (uN a) 4294967296
 have n3:(((uN b:Nat):Int)).tmod 4294967296=((uN b%4294967296:Nat):Int):=x1s (uN b) 4294967296
 have hl:uN b%32<32:=Nat.mod_lt _ (by decide)
 have n4:IntKind.i64.wrap ((uN b%32:Nat):Int)=((uN b%32:Nat):Int):=x08 (by omega) (by omega)
 have cb:∀ base h,WpF S0 base x0b [U64 (uN a),.sc (.int .i64 31)] h fun r h'=>r=V.int ((uN a/2 ^ 31%2:Nat):Int)∧h'=h:=fun base h=>x2X (uN a) 31 h (x1u a) (by decide)
 have m1:∀ base h,WpF S0 base x04 [.sc (.int .i64 a),V.int (uN b%32:Nat),.bool true,.sc (.int .i64 0),.sc (.int .i64 32)] h fun v h'=>v=.sc (.int .i64 (w64 (numN (movF (uN a) (uN b%32) 32 0 true) 64:Nat)))∧h'=h:=fun base h=>x0m a (uN b%32) 32 0 true (by omega) (by omega) (by omega) h
 have m2:∀ base h,WpF S0 base x04 [.sc (.int .i64 a),V.int (uN b%32:Nat),.bool false,.sc (.int .i64 0),.sc (.int .i64 32)] h fun v h'=>v=.sc (.int .i64 (w64 (numN (movF (uN a) (uN b%32) 32 0 false) 64:Nat)))∧h'=h:=fun base h=>x0m a (uN b%32) 32 0 false (by omega) (by omega) (by omega) h
 have m3:∀ base h,WpF S0 base x04 [.sc (.int .i64 a),V.int (uN b%32:Nat),.bool false,V.int (uN a/2 ^ 31%2:Nat),.sc (.int .i64 32)] h fun v h'=>v=.sc (.int .i64 (w64 (numN (movF (uN a) (uN b%32) 32 (uN a/2 ^ 31%2) false) 64:Nat)))∧h'=h:=fun base h=>x0m a (uN b%32) 32 (uN a/2 ^ 31%2) false (by omega) (by omega) (by omega) h
 have q1:=x5b a (uN b%32)
 have q2:=x59 a (uN b%32)
 have q3:=x5a a (uN b%32) hl
 generalize hB:uN a/2 ^ 31%2=B at *
 first | refine zu (A:=x05) rfl rfl rfl rfl ?_ | refine zB (A:=x05) rfl rfl rfl rfl ?_
 simp only [x05,oD,cD,τ,φ,ι]
 simp only [SQ,SQB,zm,AOp.opds,step,Opd.get,zk,bin,zzc,IntKind.signed,zi,zj,zl,zb,unary,ze,zd,za,zo,zr,zh,zf,zg,zp,Cp.isFull,isNil,zq,simprocAttr,-List.reduceReplicate,SQX,V.cells,x2h,List.cons.injEq,x0d,n1,n2,n3,n4,zn (c0 _ _ _),zn (c1 _ _),zn (c2 _ _),zn (cb _ _),zn (m1 _ _),zn (m2 _ _),zn (m3 _ _),q1,q2,q3,List.take_length,Nat.le_refl]
theorem xdF {base:Nat} (a b:Int) (h:Heap):WpF S0 base x0t [.sc (.string ⟨#[115,114,108,119]⟩),.sc (.int .i64 a),.sc (.int .i64 b)] h fun v h'=>v=.sc (.int .i64 (hlfI ((uN a%4294967296/2 ^ (uN b%32):Nat))))∧h'=h:=by
 have c0:=fun base n h=>x5f (base:=base) n h
 have c1:=fun base h=>x45 (base:=base) (hlfI a) (hlfI b) (x2i a) (x2i b) h
 have c2:=fun base h=>x2W (base:=base) (uN a%4294967296) (uN b%4294967296) (by omega) h
 have n1:(((uN b:Nat):Int)).tmod 32=((uN b%32:Nat):Int):=x1s (uN b) 32
 have n2:(((uN a:Nat):Int)).tmod 4294967296=((uN a%4294967296:Nat):Int):=x1s (uN a) 4294967296
 have n3:(((uN b:Nat):Int)).tmod 4294967296=((uN b%4294967296:Nat):Int):=x1s (uN b) 4294967296
 have hl:uN b%32<32:=Nat.mod_lt _ (by decide)
 have n4:IntKind.i64.wrap ((uN b%32:Nat):Int)=((uN b%32:Nat):Int):=x08 (by omega) (by omega)
 have cb:∀ base h,WpF S0 base x0b [U64 (uN a),.sc (.int .i64 31)] h fun r h'=>r=V.int ((uN a/2 ^ 31%2:Nat):Int)∧h'=h:=fun base h=>x2X (uN a) 31 h (x1u a) (by decide)
 have m1:∀ base h,WpF S0 base x04 [.sc (.int .i64 a),V.int (uN b%32:Nat),.bool true,.sc (.int .i64 0),.sc (.int .i64 32)] h fun v h'=>v=.sc (.int .i64 (w64 (numN (movF (uN a) (uN b%32) 32 0 true) 64:Nat)))∧h'=h:=fun base h=>x0m a (uN b%32) 32 0 true (by omega) (by omega) (by omega) h
 have m2:∀ base h,WpF S0 base x04 [.sc (.int .i64 a),V.int (uN b%32:Nat),.bool false,.sc (.int .i64 0),.sc (.int .i64 32)] h fun v h'=>v=.sc (.int .i64 (w64 (numN (movF (uN a) (uN b%32) 32 0 false) 64:Nat)))∧h'=h:=fun base h=>x0m a (uN b%32) 32 0 false (by omega) (by omega) (by omega) h
 have m3:∀ base h,WpF S0 base x04 [.sc (.int .i64 a),V.int (uN b%32:Nat),.bool false,V.int (uN a/2 ^ 31%2:Nat),.sc (.int .i64 32)] h fun v h'=>v=.sc (.int .i64 (w64 (numN (movF (uN a) (uN b%32) 32 (uN a/2 ^ 31%2) false) 64:Nat)))∧h'=h:=fun base h=>x0m a (uN b%32) 32 (uN a/2 ^ 31%2) false (by omega) (by omega) (by omega) h
 have q1:=x5b a (uN b%32)
 have q2:=x59 a (uN b%32)
 have q3:=x5a a (uN b%32) hl
 generalize hB:uN a/2 ^ 31%2=B at *
 first | refine zu (A:=x05) rfl rfl rfl rfl ?_ | refine zB (A:=x05) rfl rfl rfl rfl ?_
 simp only [x05,oD,cD,τ,φ,ι]
 simp only [SQ,SQB,zm,AOp.opds,step,Opd.get,zk,bin,zzc,IntKind.signed,zi,zj,zl,zb,unary,ze,zd,za,zo,zr,zh,zf,zg,zp,Cp.isFull,isNil,zq,simprocAttr,-List.reduceReplicate,SQX,V.cells,x2h,List.cons.injEq,x0d,n1,n2,n3,n4,zn (c0 _ _ _),zn (c1 _ _),zn (c2 _ _),zn (cb _ _),zn (m1 _ _),zn (m2 _ _),zn (m3 _ _),q1,q2,q3,List.take_length,Nat.le_refl]
theorem xdG {base:Nat} (a b:Int) (h:Heap):WpF S0 base x0t [.sc (.string ⟨#[115,114,97,119]⟩),.sc (.int .i64 a),.sc (.int .i64 b)] h fun v h'=>v=.sc (.int .i64 ((hlfI a).fdiv (2 ^ (uN b%32))))∧h'=h:=by
 have c0:=fun base n h=>x5f (base:=base) n h
 have c1:=fun base h=>x45 (base:=base) (hlfI a) (hlfI b) (x2i a) (x2i b) h
 have c2:=fun base h=>x2W (base:=base) (uN a%4294967296) (uN b%4294967296) (by omega) h
 have n1:(((uN b:Nat):Int)).tmod 32=((uN b%32:Nat):Int):=x1s (uN b) 32
 have n2:(((uN a:Nat):Int)).tmod 4294967296=((uN a%4294967296:Nat):Int):=x1s (uN a) 4294967296
 have n3:(((uN b:Nat):Int)).tmod 4294967296=((uN b%4294967296:Nat):Int):=x1s (uN b) 4294967296
 have hl:uN b%32<32:=Nat.mod_lt _ (by decide)
 have n4:IntKind.i64.wrap ((uN b%32:Nat):Int)=((uN b%32:Nat):Int):=x08 (by omega) (by omega)
 have cb:∀ base h,WpF S0 base x0b [U64 (uN a),.sc (.int .i64 31)] h fun r h'=>r=V.int ((uN a/2 ^ 31%2:Nat):Int)∧h'=h:=fun base h=>x2X (uN a) 31 h (x1u a) (by decide)
 have m1:∀ base h,WpF S0 base x04 [.sc (.int .i64 a),V.int (uN b%32:Nat),.bool true,.sc (.int .i64 0),.sc (.int .i64 32)] h fun v h'=>v=.sc (.int .i64 (w64 (numN (movF (uN a) (uN b%32) 32 0 true) 64:Nat)))∧h'=h:=fun base h=>x0m a (uN b%32) 32 0 true (by omega) (by omega) (by omega) h
 have m2:∀ base h,WpF S0 base x04 [.sc (.int .i64 a),V.int (uN b%32:Nat),.bool false,.sc (.int .i64 0),.sc (.int .i64 32)] h fun v h'=>v=.sc (.int .i64 (w64 (numN (movF (uN a) (uN b%32) 32 0 false) 64:Nat)))∧h'=h:=fun base h=>x0m a (uN b%32) 32 0 false (by omega) (by omega) (by omega) h
 have m3:∀ base h,WpF S0 base x04 [.sc (.int .i64 a),V.int (uN b%32:Nat),.bool false,V.int (uN a/2 ^ 31%2:Nat),.sc (.int .i64 32)] h fun v h'=>v=.sc (.int .i64 (w64 (numN (movF (uN a) (uN b%32) 32 (uN a/2 ^ 31%2) false) 64:Nat)))∧h'=h:=fun base h=>x0m a (uN b%32) 32 (uN a/2 ^ 31%2) false (by omega) (by omega) (by omega) h
 have q1:=x5b a (uN b%32)
 have q2:=x59 a (uN b%32)
 have q3:=x5a a (uN b%32) hl
 generalize hB:uN a/2 ^ 31%2=B at *
 first | refine zu (A:=x05) rfl rfl rfl rfl ?_ | refine zB (A:=x05) rfl rfl rfl rfl ?_
 simp only [x05,oD,cD,τ,φ,ι]
 simp only [SQ,SQB,zm,AOp.opds,step,Opd.get,zk,bin,zzc,IntKind.signed,zi,zj,zl,zb,unary,ze,zd,za,zo,zr,zh,zf,zg,zp,Cp.isFull,isNil,zq,simprocAttr,-List.reduceReplicate,SQX,V.cells,x2h,List.cons.injEq,x0d,n1,n2,n3,n4,zn (c0 _ _ _),zn (c1 _ _),zn (c2 _ _),zn (cb _ _),zn (m1 _ _),zn (m2 _ _),zn (m3 _ _),q1,q2,q3,List.take_length,Nat.le_refl]
theorem xdJ {base:Nat} (a b:Int) (h:Heap):WpF S0 base x0t [.sc (.string ⟨#[109,117,108,119]⟩),.sc (.int .i64 a),.sc (.int .i64 b)] h fun v h'=>v=.sc (.int .i64 (hlfI (w64 (a*b))))∧h'=h:=by
 have c0:=fun base n h=>x5f (base:=base) n h
 have c1:=fun base h=>x45 (base:=base) (hlfI a) (hlfI b) (x2i a) (x2i b) h
 have c2:=fun base h=>x2W (base:=base) (uN a%4294967296) (uN b%4294967296) (by omega) h
 have n1:(((uN b:Nat):Int)).tmod 32=((uN b%32:Nat):Int):=x1s (uN b) 32
 have n2:(((uN a:Nat):Int)).tmod 4294967296=((uN a%4294967296:Nat):Int):=x1s (uN a) 4294967296
 have n3:(((uN b:Nat):Int)).tmod 4294967296=((uN b%4294967296:Nat):Int):=x1s (uN b) 4294967296
 have hl:uN b%32<32:=Nat.mod_lt _ (by decide)
 have n4:IntKind.i64.wrap ((uN b%32:Nat):Int)=((uN b%32:Nat):Int):=x08 (by omega) (by omega)
 have cb:∀ base h,WpF S0 base x0b [U64 (uN a),.sc (.int .i64 31)] h fun r h'=>r=V.int ((uN a/2 ^ 31%2:Nat):Int)∧h'=h:=fun base h=>x2X (uN a) 31 h (x1u a) (by decide)
 have m1:∀ base h,WpF S0 base x04 [.sc (.int .i64 a),V.int (uN b%32:Nat),.bool true,.sc (.int .i64 0),.sc (.int .i64 32)] h fun v h'=>v=.sc (.int .i64 (w64 (numN (movF (uN a) (uN b%32) 32 0 true) 64:Nat)))∧h'=h:=fun base h=>x0m a (uN b%32) 32 0 true (by omega) (by omega) (by omega) h
 have m2:∀ base h,WpF S0 base x04 [.sc (.int .i64 a),V.int (uN b%32:Nat),.bool false,.sc (.int .i64 0),.sc (.int .i64 32)] h fun v h'=>v=.sc (.int .i64 (w64 (numN (movF (uN a) (uN b%32) 32 0 false) 64:Nat)))∧h'=h:=fun base h=>x0m a (uN b%32) 32 0 false (by omega) (by omega) (by omega) h
 have m3:∀ base h,WpF S0 base x04 [.sc (.int .i64 a),V.int (uN b%32:Nat),.bool false,V.int (uN a/2 ^ 31%2:Nat),.sc (.int .i64 32)] h fun v h'=>v=.sc (.int .i64 (w64 (numN (movF (uN a) (uN b%32) 32 (uN a/2 ^ 31%2) false) 64:Nat)))∧h'=h:=fun base h=>x0m a (uN b%32) 32 (uN a/2 ^ 31%2) false (by omega) (by omega) (by omega) h
 have q1:=x5b a (uN b%32)
 have q2:=x59 a (uN b%32)
 have q3:=x5a a (uN b%32) hl
 generalize hB:uN a/2 ^ 31%2=B at *
 first | refine zu (A:=x05) rfl rfl rfl rfl ?_ | refine zB (A:=x05) rfl rfl rfl rfl ?_
 simp only [x05,oD,cD,τ,φ,ι]
 simp only [SQ,SQB,zm,AOp.opds,step,Opd.get,zk,bin,zzc,IntKind.signed,zi,zj,zl,zb,unary,ze,zd,za,zo,zr,zh,zf,zg,zp,Cp.isFull,isNil,zq,simprocAttr,-List.reduceReplicate,SQX,V.cells,x2h,List.cons.injEq,x0d,n1,n2,n3,n4,zn (c0 _ _ _),zn (c1 _ _),zn (c2 _ _),zn (cb _ _),zn (m1 _ _),zn (m2 _ _),zn (m3 _ _),q1,q2,q3,List.take_length,Nat.le_refl]
theorem xdK {base:Nat} (a b:Int) (h:Heap):WpF S0 base x0t [.sc (.string ⟨#[100,105,118,119]⟩),.sc (.int .i64 a),.sc (.int .i64 b)] h fun v h'=>v=.sc (.int .i64 (hlfI (quoI (hlfI a) (hlfI b))))∧h'=h:=by
 have c0:=fun base n h=>x5f (base:=base) n h
 have c1:=fun base h=>x45 (base:=base) (hlfI a) (hlfI b) (x2i a) (x2i b) h
 have c2:=fun base h=>x2W (base:=base) (uN a%4294967296) (uN b%4294967296) (by omega) h
 have n1:(((uN b:Nat):Int)).tmod 32=((uN b%32:Nat):Int):=x1s (uN b) 32
 have n2:(((uN a:Nat):Int)).tmod 4294967296=((uN a%4294967296:Nat):Int):=x1s (uN a) 4294967296
 have n3:(((uN b:Nat):Int)).tmod 4294967296=((uN b%4294967296:Nat):Int):=x1s (uN b) 4294967296
 have hl:uN b%32<32:=Nat.mod_lt _ (by decide)
 have n4:IntKind.i64.wrap ((uN b%32:Nat):Int)=((uN b%32:Nat):Int):=x08 (by omega) (by omega)
 have cb:∀ base h,WpF S0 base x0b [U64 (uN a),.sc (.int .i64 31)] h fun r h'=>r=V.int ((uN a/2 ^ 31%2:Nat):Int)∧h'=h:=fun base h=>x2X (uN a) 31 h (x1u a) (by decide)
 have m1:∀ base h,WpF S0 base x04 [.sc (.int .i64 a),V.int (uN b%32:Nat),.bool true,.sc (.int .i64 0),.sc (.int .i64 32)] h fun v h'=>v=.sc (.int .i64 (w64 (numN (movF (uN a) (uN b%32) 32 0 true) 64:Nat)))∧h'=h:=fun base h=>x0m a (uN b%32) 32 0 true (by omega) (by omega) (by omega) h
 have m2:∀ base h,WpF S0 base x04 [.sc (.int .i64 a),V.int (uN b%32:Nat),.bool false,.sc (.int .i64 0),.sc (.int .i64 32)] h fun v h'=>v=.sc (.int .i64 (w64 (numN (movF (uN a) (uN b%32) 32 0 false) 64:Nat)))∧h'=h:=fun base h=>x0m a (uN b%32) 32 0 false (by omega) (by omega) (by omega) h
 have m3:∀ base h,WpF S0 base x04 [.sc (.int .i64 a),V.int (uN b%32:Nat),.bool false,V.int (uN a/2 ^ 31%2:Nat),.sc (.int .i64 32)] h fun v h'=>v=.sc (.int .i64 (w64 (numN (movF (uN a) (uN b%32) 32 (uN a/2 ^ 31%2) false) 64:Nat)))∧h'=h:=fun base h=>x0m a (uN b%32) 32 (uN a/2 ^ 31%2) false (by omega) (by omega) (by omega) h
 have q1:=x5b a (uN b%32)
 have q2:=x59 a (uN b%32)
 have q3:=x5a a (uN b%32) hl
 generalize hB:uN a/2 ^ 31%2=B at *
 first | refine zu (A:=x05) rfl rfl rfl rfl ?_ | refine zB (A:=x05) rfl rfl rfl rfl ?_
 simp only [x05,oD,cD,τ,φ,ι]
 simp only [SQ,SQB,zm,AOp.opds,step,Opd.get,zk,bin,zzc,IntKind.signed,zi,zj,zl,zb,unary,ze,zd,za,zo,zr,zh,zf,zg,zp,Cp.isFull,isNil,zq,simprocAttr,-List.reduceReplicate,SQX,V.cells,x2h,List.cons.injEq,x0d,n1,n2,n3,n4,zn (c0 _ _ _),zn (c1 _ _),zn (c2 _ _),zn (cb _ _),zn (m1 _ _),zn (m2 _ _),zn (m3 _ _),q1,q2,q3,List.take_length,Nat.le_refl]
theorem xbA {base:Nat} (a b:Int) (h:Heap):WpF S0 base x0t [.sc (.string ⟨#[100,105,118,117,119]⟩),.sc (.int .i64 a),.sc (.int .i64 b)] h fun v h'=>v=.sc (.int .i64 (hlfI (quoU (uN a%4294967296) (uN b%4294967296))))∧h'=h:=by
 have c0:=fun base n h=>x5f (base:=base) n h
 have c1:=fun base h=>x45 (base:=base) (hlfI a) (hlfI b) (x2i a) (x2i b) h
 have c2:=fun base h=>x2W (base:=base) (uN a%4294967296) (uN b%4294967296) (by omega) h
 have n1:(((uN b:Nat):Int)).tmod 32=((uN b%32:Nat):Int):=x1s (uN b) 32
 have n2:(((uN a:Nat):Int)).tmod 4294967296=((uN a%4294967296:Nat):Int):=x1s (uN a) 4294967296
 have n3:(((uN b:Nat):Int)).tmod 4294967296=((uN b%4294967296:Nat):Int):=x1s (uN b) 4294967296
 have hl:uN b%32<32:=Nat.mod_lt _ (by decide)
 have n4:IntKind.i64.wrap ((uN b%32:Nat):Int)=((uN b%32:Nat):Int):=x08 (by omega) (by omega)
 have cb:∀ base h,WpF S0 base x0b [U64 (uN a),.sc (.int .i64 31)] h fun r h'=>r=V.int ((uN a/2 ^ 31%2:Nat):Int)∧h'=h:=fun base h=>x2X (uN a) 31 h (x1u a) (by decide)
 have m1:∀ base h,WpF S0 base x04 [.sc (.int .i64 a),V.int (uN b%32:Nat),.bool true,.sc (.int .i64 0),.sc (.int .i64 32)] h fun v h'=>v=.sc (.int .i64 (w64 (numN (movF (uN a) (uN b%32) 32 0 true) 64:Nat)))∧h'=h:=fun base h=>x0m a (uN b%32) 32 0 true (by omega) (by omega) (by omega) h
 have m2:∀ base h,WpF S0 base x04 [.sc (.int .i64 a),V.int (uN b%32:Nat),.bool false,.sc (.int .i64 0),.sc (.int .i64 32)] h fun v h'=>v=.sc (.int .i64 (w64 (numN (movF (uN a) (uN b%32) 32 0 false) 64:Nat)))∧h'=h:=fun base h=>x0m a (uN b%32) 32 0 false (by omega) (by omega) (by omega) h
 have m3:∀ base h,WpF S0 base x04 [.sc (.int .i64 a),V.int (uN b%32:Nat),.bool false,V.int (uN a/2 ^ 31%2:Nat),.sc (.int .i64 32)] h fun v h'=>v=.sc (.int .i64 (w64 (numN (movF (uN a) (uN b%32) 32 (uN a/2 ^ 31%2) false) 64:Nat)))∧h'=h:=fun base h=>x0m a (uN b%32) 32 (uN a/2 ^ 31%2) false (by omega) (by omega) (by omega) h
 have q1:=x5b a (uN b%32)
 have q2:=x59 a (uN b%32)
 have q3:=x5a a (uN b%32) hl
 generalize hB:uN a/2 ^ 31%2=B at *
 first | refine zu (A:=x05) rfl rfl rfl rfl ?_ | refine zB (A:=x05) rfl rfl rfl rfl ?_
 simp only [x05,oD,cD,τ,φ,ι]
 simp only [SQ,SQB,zm,AOp.opds,step,Opd.get,zk,bin,zzc,IntKind.signed,zi,zj,zl,zb,unary,ze,zd,za,zo,zr,zh,zf,zg,zp,Cp.isFull,isNil,zq,simprocAttr,-List.reduceReplicate,SQX,V.cells,x2h,List.cons.injEq,x0d,n1,n2,n3,n4,zn (c0 _ _ _),zn (c1 _ _),zn (c2 _ _),zn (cb _ _),zn (m1 _ _),zn (m2 _ _),zn (m3 _ _),q1,q2,q3,List.take_length,Nat.le_refl]
theorem xdI {base:Nat} (a b:Int) (h:Heap):WpF S0 base x0t [.sc (.string ⟨#[114,101,109,119]⟩),.sc (.int .i64 a),.sc (.int .i64 b)] h fun v h'=>v=.sc (.int .i64 (hlfI (remI (hlfI a) (hlfI b))))∧h'=h:=by
 have c0:=fun base n h=>x5f (base:=base) n h
 have c1:=fun base h=>x45 (base:=base) (hlfI a) (hlfI b) (x2i a) (x2i b) h
 have c2:=fun base h=>x2W (base:=base) (uN a%4294967296) (uN b%4294967296) (by omega) h
 have n1:(((uN b:Nat):Int)).tmod 32=((uN b%32:Nat):Int):=x1s (uN b) 32
 have n2:(((uN a:Nat):Int)).tmod 4294967296=((uN a%4294967296:Nat):Int):=x1s (uN a) 4294967296
 have n3:(((uN b:Nat):Int)).tmod 4294967296=((uN b%4294967296:Nat):Int):=x1s (uN b) 4294967296
 have hl:uN b%32<32:=Nat.mod_lt _ (by decide)
 have n4:IntKind.i64.wrap ((uN b%32:Nat):Int)=((uN b%32:Nat):Int):=x08 (by omega) (by omega)
 have cb:∀ base h,WpF S0 base x0b [U64 (uN a),.sc (.int .i64 31)] h fun r h'=>r=V.int ((uN a/2 ^ 31%2:Nat):Int)∧h'=h:=fun base h=>x2X (uN a) 31 h (x1u a) (by decide)
 have m1:∀ base h,WpF S0 base x04 [.sc (.int .i64 a),V.int (uN b%32:Nat),.bool true,.sc (.int .i64 0),.sc (.int .i64 32)] h fun v h'=>v=.sc (.int .i64 (w64 (numN (movF (uN a) (uN b%32) 32 0 true) 64:Nat)))∧h'=h:=fun base h=>x0m a (uN b%32) 32 0 true (by omega) (by omega) (by omega) h
 have m2:∀ base h,WpF S0 base x04 [.sc (.int .i64 a),V.int (uN b%32:Nat),.bool false,.sc (.int .i64 0),.sc (.int .i64 32)] h fun v h'=>v=.sc (.int .i64 (w64 (numN (movF (uN a) (uN b%32) 32 0 false) 64:Nat)))∧h'=h:=fun base h=>x0m a (uN b%32) 32 0 false (by omega) (by omega) (by omega) h
 have m3:∀ base h,WpF S0 base x04 [.sc (.int .i64 a),V.int (uN b%32:Nat),.bool false,V.int (uN a/2 ^ 31%2:Nat),.sc (.int .i64 32)] h fun v h'=>v=.sc (.int .i64 (w64 (numN (movF (uN a) (uN b%32) 32 (uN a/2 ^ 31%2) false) 64:Nat)))∧h'=h:=fun base h=>x0m a (uN b%32) 32 (uN a/2 ^ 31%2) false (by omega) (by omega) (by omega) h
 have q1:=x5b a (uN b%32)
 have q2:=x59 a (uN b%32)
 have q3:=x5a a (uN b%32) hl
 generalize hB:uN a/2 ^ 31%2=B at *
 first | refine zu (A:=x05) rfl rfl rfl rfl ?_ | refine zB (A:=x05) rfl rfl rfl rfl ?_
 simp only [x05,oD,cD,τ,φ,ι]
 simp only [SQ,SQB,zm,AOp.opds,step,Opd.get,zk,bin,zzc,IntKind.signed,zi,zj,zl,zb,unary,ze,zd,za,zo,zr,zh,zf,zg,zp,Cp.isFull,isNil,zq,simprocAttr,-List.reduceReplicate,SQX,V.cells,x2h,List.cons.injEq,x0d,n1,n2,n3,n4,zn (c0 _ _ _),zn (c1 _ _),zn (c2 _ _),zn (cb _ _),zn (m1 _ _),zn (m2 _ _),zn (m3 _ _),q1,q2,q3,List.take_length,Nat.le_refl]
theorem xbz {base:Nat} (a b:Int) (h:Heap):WpF S0 base x0t [.sc (.string ⟨#[114,101,109,117,119]⟩),.sc (.int .i64 a),.sc (.int .i64 b)] h fun v h'=>v=.sc (.int .i64 (hlfI (remU (uN a%4294967296) (uN b%4294967296))))∧h'=h:=by
 have c0:=fun base n h=>x5f (base:=base) n h
 have c1:=fun base h=>x45 (base:=base) (hlfI a) (hlfI b) (x2i a) (x2i b) h
 have c2:=fun base h=>x2W (base:=base) (uN a%4294967296) (uN b%4294967296) (by omega) h
 have n1:(((uN b:Nat):Int)).tmod 32=((uN b%32:Nat):Int):=x1s (uN b) 32
 have n2:(((uN a:Nat):Int)).tmod 4294967296=((uN a%4294967296:Nat):Int):=x1s (uN a) 4294967296
 have n3:(((uN b:Nat):Int)).tmod 4294967296=((uN b%4294967296:Nat):Int):=x1s (uN b) 4294967296
 have hl:uN b%32<32:=Nat.mod_lt _ (by decide)
 have n4:IntKind.i64.wrap ((uN b%32:Nat):Int)=((uN b%32:Nat):Int):=x08 (by omega) (by omega)
 have cb:∀ base h,WpF S0 base x0b [U64 (uN a),.sc (.int .i64 31)] h fun r h'=>r=V.int ((uN a/2 ^ 31%2:Nat):Int)∧h'=h:=fun base h=>x2X (uN a) 31 h (x1u a) (by decide)
 have m1:∀ base h,WpF S0 base x04 [.sc (.int .i64 a),V.int (uN b%32:Nat),.bool true,.sc (.int .i64 0),.sc (.int .i64 32)] h fun v h'=>v=.sc (.int .i64 (w64 (numN (movF (uN a) (uN b%32) 32 0 true) 64:Nat)))∧h'=h:=fun base h=>x0m a (uN b%32) 32 0 true (by omega) (by omega) (by omega) h
 have m2:∀ base h,WpF S0 base x04 [.sc (.int .i64 a),V.int (uN b%32:Nat),.bool false,.sc (.int .i64 0),.sc (.int .i64 32)] h fun v h'=>v=.sc (.int .i64 (w64 (numN (movF (uN a) (uN b%32) 32 0 false) 64:Nat)))∧h'=h:=fun base h=>x0m a (uN b%32) 32 0 false (by omega) (by omega) (by omega) h
 have m3:∀ base h,WpF S0 base x04 [.sc (.int .i64 a),V.int (uN b%32:Nat),.bool false,V.int (uN a/2 ^ 31%2:Nat),.sc (.int .i64 32)] h fun v h'=>v=.sc (.int .i64 (w64 (numN (movF (uN a) (uN b%32) 32 (uN a/2 ^ 31%2) false) 64:Nat)))∧h'=h:=fun base h=>x0m a (uN b%32) 32 (uN a/2 ^ 31%2) false (by omega) (by omega) (by omega) h
 have q1:=x5b a (uN b%32)
 have q2:=x59 a (uN b%32)
 have q3:=x5a a (uN b%32) hl
 generalize hB:uN a/2 ^ 31%2=B at *
 first | refine zu (A:=x05) rfl rfl rfl rfl ?_ | refine zB (A:=x05) rfl rfl rfl rfl ?_
 simp only [x05,oD,cD,τ,φ,ι]
 simp only [SQ,SQB,zm,AOp.opds,step,Opd.get,zk,bin,zzc,IntKind.signed,zi,zj,zl,zb,unary,ze,zd,za,zo,zr,zh,zf,zg,zp,Cp.isFull,isNil,zq,simprocAttr,-List.reduceReplicate,SQX,V.cells,x2h,List.cons.injEq,x0d,n1,n2,n3,n4,zn (c0 _ _ _),zn (c1 _ _),zn (c2 _ _),zn (cb _ _),zn (m1 _ _),zn (m2 _ _),zn (m3 _ _),q1,q2,q3,List.take_length,Nat.le_refl]
end
end Go.Am
