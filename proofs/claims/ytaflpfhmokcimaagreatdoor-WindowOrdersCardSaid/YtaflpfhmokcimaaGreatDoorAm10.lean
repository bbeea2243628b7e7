/- The abstract machine and what is proved in it, part 10. -/
import Derived.Test.YtaflpfhmokcimaaGreatDoorAm9
set_option linter.unusedVariables false
set_option linter.unusedSimpArgs false
namespace Go.Am
section
def ent0 (i:Ins) (pc:Int):Ent:=⟨pc,i,IntKind.i64.wrap (pc+4),0,false,0,0,false,false,false,-1,0⟩
theorem xja {base:Nat} (i:Ins) (h1:22≤i.op) (h2:i.op≤62) (h:Heap):WpF S0 base x3X [i.v] h fun v h'=>v=U32 (encI i)∧h'=h:=by
 have:=xmH (base:=base) i.op.toNat i.rd i.a i.b i.imm i.aq i.rl h (by omega) (by omega)
 have e:((i.op.toNat:Nat):Int)=i.op:=by omega
 rw [e] at this
 unfold encI
 exact this
theorem xig {n k:Nat} (hk:k<n):x5Z n (65536+4*(k:Int))=some k:=by
 unfold x5Z
 generalize hK:(65536:Int)=K
 have h1:¬ (K+4*(k:Int)<K∨K+4*(n:Int)≤K+4*(k:Int)∨(K+4*(k:Int))%4≠0):=by omega
 rw [if_neg h1]
 have h2:K+4*(k:Int)-K=4*(k:Int):=by omega
 rw [h2,Int.mul_ediv_cancel_left _ (by decide)]
 rfl
theorem xmW {ws:List Nat} {pc:Int} {k:Nat} (hc:x5Z ws.length pc=some k):atI ws pc=insP (ws.getD k 0):=by
 unfold atI
 rw [hc]
theorem xlA {li:List Ins} (hi:∀ x∈li,22≤x.op∧x.op≤62∧x.may=true) {k:Nat} (hk:k<li.length):insP ((li.map encI).getD k 0)=li[k]:=by
 obtain ⟨p1,p2,p3⟩:=hi _ (List.getElem_mem hk)
 have g:(li.map encI).getD k 0=encI li[k]:=by
  rw [List.getD_eq_getElem?_getD,List.getElem?_map,List.getElem?_eq_getElem hk,Option.map_some,Option.getD_some]
 rw [g]
 exact (xgs _ p1 p2 p3).2
theorem xkG {li:List Ins} (hi:∀ x∈li,22≤x.op∧x.op≤62∧x.may=true) {k:Nat} (hk:k<li.length):x5Z (li.map encI).length (65536+4*(k:Int))=some k∧atI (li.map encI) (65536+4*(k:Int))=li[k]:=by
 have hc:x5Z (li.map encI).length (65536+4*(k:Int))=some k:=xig (by rw [List.length_map];exact hk)
 exact ⟨hc,(xmW hc).trans (xlA hi hk)⟩
theorem xbd {base:Nat} (cv dv ev:V) {li:List Ins} (hl:li.length≤12) (hi:∀ x∈li,22≤x.op∧x.op≤62∧x.may=true) {k:Nat} (hk:k<li.length) (h:Heap) (hc:∀ ext,xh3 (h++ext) cv (li.map encI)) (hd:zm dv=true) (he:zm ev=true):WpF S0 base x5d [.agg [cv,dv,ev],sci (65536+4*(k:Int)),sci 0] h fun v h'=>v=.agg (rowE (ent0 li[k] (65536+4*(k:Int))))∧h'=h:=by
 obtain ⟨a1,a2⟩:=xkG hi hk
 obtain ⟨p1,p2,p3⟩:=hi _ (List.getElem_mem hk)
 have:=xhY (base:=base) cv dv ev (li.map encI) (65536+4*(k:Int)) 0 h hc hd he (by simp;omega) (fun w hw=>by
  obtain ⟨x,hx,rfl⟩:=List.mem_map.1 hw
  obtain ⟨q1,q2,q3⟩:=hi x hx
  exact (xgs _ q1 q2 q3).1)
 rw [a1,a2] at this
 have e:entV li[k] (65536+4*(k:Int)) 0 (if (some k).isSome then badI li[k].op else 5)=.agg (rowE (ent0 li[k] (65536+4*(k:Int)))):=by
  have n1:nxtI li[k].op li[k].imm (65536+4*(k:Int)) 0=IntKind.i64.wrap (65536+4*(k:Int)+4):=by
   unfold nxtI
   rw [if_neg (by omega),if_neg (by omega),if_neg (by omega)]
  have n2:badI li[k].op=0:=by
   unfold badI accI
   rw [if_neg (by omega),if_neg (by omega),if_neg (by simp;omega)]
  have n3:valI li[k].op li[k].imm (65536+4*(k:Int))=0:=by
   unfold valI
   rw [if_neg (by omega),if_neg (by omega),if_neg (by omega)]
  have n4:rdyI li[k].op=false:=by unfold rdyI;simp;omega
  have n5:donI li[k].op=false:=by unfold donI;simp;omega
  unfold entV entC
  rw [n1,n3,n4,n5]
  simp only [Option.isSome_some,if_true,n2]
  rfl
 rw [e] at this
 exact this
theorem xif (ex:Cp) (w:Nat) (h:Heap):xh3 h (.slc ex 1 [[U32 w]]) [w]:=⟨rfl,rfl,fun k hk=>by
 obtain rfl:k=0:=by simpa using hk
 exact ⟨_,rfl,rfl⟩⟩
theorem xcC {base:Nat} {h:Heap} {t:TypeId} {cs new:List V} {n:Nat} (hb:base≤h.length) (hc:cs.length=n) (hn:new.length=n) (ho:new.all zm=true):x0y base (h++[.box t cs]) n (.ptr h.length 0) (.agg new)=some (h++[.box t new]):=by
 have hm:x0H base h.length new=true:=by simp [x0H,hb]
 have hp:x0E cs 0 new=new:=by
  unfold x0E
  rw [List.take_zero,List.nil_append,Nat.zero_add,hn,← hc,List.drop_length,List.append_nil]
 simp only [x0y,V.cells,hn,hc,ho,and_self,x3I,if_true,Nat.zero_add,Nat.le_refl,hm,hp,xcG]
theorem xal {zs:List V} {off:Nat} {v:V} {r:List (Nat×Nat×V)} (hv:zm v=true):x0q zs ((off,1,v)::r)=if off<zs.length then x0q (zs.set off v) r else none:=by
 have hc:v.cells=[v]:=by cases v<;>first | rfl | cases hv
 simp only [x0q,hc,List.length_cons,List.length_nil,List.all_cons,List.all_nil,hv,Bool.and_true,Nat.zero_add,true_and]
 by_cases h:off<zs.length
 ·rw [if_pos (show off+1≤zs.length from h),if_pos h,x8c h]
 ·rw [if_neg (show ¬ off+1≤zs.length from h),if_neg h]
theorem xke {zs:List V} {off:Nat} {x:Value} {r:List (Nat×Nat×V)}:x0q zs ((off,1,.sc x)::r)=if off<zs.length then x0q (zs.set off (.sc x)) r else none:=xal rfl
theorem xd8 {zs:List V} {off:Nat} {c:Cp} {z:Nat} {rs:List (List V)} {r:List (Nat×Nat×V)}:x0q zs ((off,1,.slc c z rs)::r)=if off<zs.length then x0q (zs.set off (.slc c z rs)) r else none:=xal rfl
theorem xhX {zs:List V} {off b e o l:Nat} {r:List (Nat×Nat×V)}:x0q zs ((off,1,.hsl b e o l)::r)=if off<zs.length then x0q (zs.set off (.hsl b e o l)) r else none:=xal rfl
theorem xd9 {zs:List V}:x0q zs []=some zs:=rfl
theorem x74 {base:Nat} {f:FuncId} {args:List V} {h:Heap} {v0:V} {P:Heap→Prop} (hw:WpF S0 base f args h fun v h'=>v=v0∧P h'):∃ H,(WpF S0 base f args h fun v h'=>v=v0∧h'=H)∧P H:=by
 obtain ⟨n,v,h',e,rfl,p⟩:=hw
 exact ⟨h',⟨n,_,_,e,rfl,rfl⟩,p⟩
abbrev iA:Ins:=⟨22,5,0,0,7,false,false⟩
set_option maxHeartbeats 1000000 in
theorem x5x {base:Nat} (h:Heap):WpF S0 base x5X [] h fun v h'=>v=.bool true∧h'=h:=by
 have hiA:∀ x∈[iA],22≤x.op∧x.op≤62∧x.may=true:=fun x hx=>by
  obtain rfl:x=iA:=by simpa using hx
  exact ⟨by decide,by decide,rfl⟩
 have hE:=fun base h=>xja (base:=base) iA (by decide) (by decide) h
 have hF:=fun base ext=>xbd (base:=base) (.slc .lit 1 [[U32 (encI iA)]]) (.sc (.slice none 0 0)) (.slc .lit 1 [[sci 0]]) (li:=[iA]) (by decide) hiA (k:=0) (by decide) (h++ext) (fun _=>xif _ _ _) rfl rfl
 generalize encI iA=w at *
 first | refine zu (A:=x13) rfl rfl rfl rfl ?_ | refine zB (A:=x13) rfl rfl rfl rfl ?_
 simp only [x13,oD,cD,τ,φ,ι]
 have s3:=xcC (base:=h.length) (h:=h) (t:=25) (cs:=[.sc (.slice none 0 0),.sc (.slice none 0 0),.sc (.slice none 0 0)]) (new:=[.slc .lit 1 [[U32 w]],.sc (.slice none 0 0),.slc .lit 1 [[sci 0]]]) (n:=3) (Nat.le_refl _) rfl rfl rfl
 have l3:zl (h++[Obj.box 25 [.slc .lit 1 [[U32 w]],.sc (.slice none 0 0),.slc .lit 1 [[sci 0]]]]) (some 3) (.ptr h.length 0)=some (.agg [.slc .lit 1 [[U32 w]],.sc (.slice none 0 0),.slc .lit 1 [[sci 0]]]):=by rw [x2Y x3I];rfl
 have hF0:∀ base ext,WpF S0 base x5d [.agg [.slc .lit 1 [[U32 w]],.sc (.slice none 0 0),.slc .lit 1 [[sci 0]]],sci 65536,sci 0] (h++ext) fun v h'=>v=.agg (rowE (ent0 iA 65536))∧h'=h++ext:=hF
 generalize hA:Obj.box 25 [V.slc .lit 1 [[U32 w]],V.sc (.slice none 0 0),V.slc .lit 1 [[sci 0]]]=A at *
 have hW:WinO tyE (h++[A]++[.row tyE 18 0 [rowE (ent0 iA 65536)]]++[.box 47 (List.replicate 32 (sci 0)++[.hsl (h++[A]).length 0 0 1])]) (h++[A]++[Obj.row tyE 18 0 [rowE (ent0 iA 65536)]]).length (some (h++[A]).length) (fun _=>0) [ent0 iA 65536]:=by
  refine ⟨_,_,_,x3I,fun k hk=>by rw [List.getElem?_append_left (by simpa using hk),List.getElem?_replicate,if_pos hk],rfl,.inr ⟨_,0,[rowE (ent0 iA 65536)],rfl,rfl,?_,Nat.le_refl _,fun i hi=>?_⟩⟩
  ·rw [List.getElem?_append_left (by simp),x3I]
  ·obtain rfl:i=0:=by simpa using hi
   rfl
 have hAri:∀ e∈[ent0 iA 65536],Ari e:=fun e he=>by
  obtain rfl:e=ent0 iA 65536:=by simpa using he
  exact ⟨rfl,by decide,by decide,by unfold I64;decide⟩
 obtain ⟨H,hx,hW2,hk2⟩:=x74 (xcc (base:=h.length) (.slc .lit 1 [[U32 w]]) (.sc (.slice none 0 0)) (.slc .lit 1 [[sci 0]]) rfl rfl rfl hW hAri (by decide) (i:=0) (by decide))
 have hx':WpF S0 h.length x1z [.ptr (h++[A]++[Obj.row tyE 18 0 [rowE (ent0 iA 65536)]]).length 0,.agg [.slc .lit 1 [[U32 w]],.sc (.slice none 0 0),.slc .lit 1 [[sci 0]]],sci 0] (h++[A]++[.row tyE 18 0 [rowE (ent0 iA 65536)]]++[.box 47 (List.replicate 32 (sci 0)++[.hsl (h++[A]).length 0 0 1])]) fun v h'=>v=.bool true∧h'=H:=hx
 have hR:=xl1 (base:=h.length) hW2.at (fun e he=>by
  obtain rfl:e=(ent0 iA 65536).done 7:=by
   have:x8O (fun _=>0) [ent0 iA 65536] 0=[(ent0 iA 65536).done 7]:=rfl
   rw [this] at he
   simpa using he
  unfold I64
  decide) (by decide) 1 (by decide) 5
 have hR':WpF S0 h.length x4O [.ptr (h++[A]++[Obj.row tyE 18 0 [rowE (ent0 iA 65536)]]).length 0,sci 1,sci 5] H fun v h'=>v=.tup [sci 7,scb true]∧h'=H:=hR
 have hlen:h.length≤H.length:=by
  have:=hk2.1
  simp at this
  omega
 have hfin:H.take h.length=h:=by
  apply List.ext_getElem?
  intro c
  by_cases hc:c<h.length
  ·rw [List.getElem?_take_of_lt hc,hk2.2 c (by simp;omega) (by simp;omega),List.append_assoc,List.append_assoc,List.getElem?_append_left hc]
  ·rw [List.getElem?_eq_none (by simp;omega),List.getElem?_eq_none (by omega)]
 have l3':∀ X:Obj,zl (h++[A]++[.row tyE 18 0 [rowE (ent0 iA 65536)]]++[X]) (some 3) (.ptr h.length 0)=some (.agg [.slc .lit 1 [[U32 w]],.sc (.slice none 0 0),.slc .lit 1 [[sci 0]]]):=fun X=>by
  rw [x2Y (t:=25) (cs:=[V.slc .lit 1 [[U32 w]],V.sc (.slice none 0 0),V.slc .lit 1 [[sci 0]]])]
  ·rfl
  ·rw [List.append_assoc,List.append_assoc,List.getElem?_append_right (Nat.le_refl _),Nat.sub_self,hA]
   rfl
 simp only [List.reduceReplicate,List.cons_append,List.nil_append] at hx'
 simp only [SQ,SQB,zm,AOp.opds,step,Opd.get,zk,bin,zzc,IntKind.signed,zi,zj,zb,unary,ze,zd,za,zo,zr,zh,zf,zg,zp,Cp.isFull,isNil,zq,simprocAttr,SQX,V.cells,s3,l3,l3',zn (hF0 _ _),zn (hE _ _),x0g,x0J,zv,xke,xd8,xhX,xd9,List.length_cons,List.length_nil,List.set_cons_zero,List.set_cons_succ,(x6N (ent0 iA 65536)).1,(x6N (ent0 iA 65536)).2.1,zn hx',zn hR',hlen,hfin]
end
section
def x1t:Nat→ACode→ACode
 | n+1,.seq _ b=>x1t n b
 | _,c=>c
structure Two (h:Heap) (bw bx:Nat) (ow ox:Option Nat) (rw rx:Nat→Int) (lw lx:List Ent):Prop where
 w:WinO tyE h bw ow rw lw
 x:WinO tyX h bx ox rx lx
 ne:bw≠bx
 wx:ow≠some bx
 xw:ox≠some bw
 oo:∀ c,ow=some c→ox≠some c
theorem WinO.keep2 {tE:TypeId} {h h':Heap} {b b2:Nat} {own o2 o2':Option Nat} {regs:Nat→Int} {l:List Ent} (hw:WinO tE h b own regs l) (hk:xbt h h' b2 o2 o2') (h1:b≠b2) (h2:o2≠some b) (h3:own≠some b2) (h4:∀ c,own=some c→o2≠some c):WinO tE h' b own regs l:=by
 obtain ⟨t,cs,lv,e1,e2,e3,e4⟩:=hw
 refine ⟨t,cs,lv,by rw [hk.2.1 b (get_lt' e1) h1 (fun e=>h2 e.symm)];exact e1,e2,e3,?_⟩
 rcases e4 with ⟨p,q,r⟩ | ⟨r,e,rows,rfl,q1,q2,q3,q4⟩
 ·exact .inl ⟨p,q,r⟩
 ·exact .inr ⟨r,e,rows,rfl,q1,by rw [hk.2.1 r (get_lt' q2) (fun e=>h3 (by rw [e])) (fun e=>h4 r rfl e.symm)];exact q2,q3,q4⟩
theorem WinO.lt {tE:TypeId} {h:Heap} {b:Nat} {own:Option Nat} {regs:Nat→Int} {l:List Ent} (hw:WinO tE h b own regs l):b<h.length∧∀ c,own=some c→c<h.length:=by
 obtain ⟨t,cs,lv,e1,e2,e3,e4⟩:=hw
 refine ⟨get_lt' e1,fun c hc=>?_⟩
 rcases e4 with ⟨p,q,r⟩ | ⟨r,e,rows,rfl,q1,q2,q3,q4⟩
 ·rw [r] at hc;cases hc
 ·injection hc with hc
  subst hc
  exact get_lt' q2
abbrev regC (r:Nat→Int):List V:=[sci (r 0),sci (r 1),sci (r 2),sci (r 3),sci (r 4),sci (r 5),sci (r 6),sci (r 7),sci (r 8),sci (r 9),sci (r 10),sci (r 11),sci (r 12),sci (r 13),sci (r 14),sci (r 15),sci (r 16),sci (r 17),sci (r 18),sci (r 19),sci (r 20),sci (r 21),sci (r 22),sci (r 23),sci (r 24),sci (r 25),sci (r 26),sci (r 27),sci (r 28),sci (r 29),sci (r 30),sci (r 31)]
theorem x8t (r:Nat→Int):regC r=(List.range 32).map fun k=>sci (r k):=rfl
theorem WinO.ld32 {tE:TypeId} {h:Heap} {b:Nat} {own:Option Nat} {regs:Nat→Int} {l:List Ent} (hw:WinO tE h b own regs l):zl h (some 32) (.ptr b 0)=some (.agg (regC regs)):=by
 obtain ⟨t,cs,lv,e1,e2,e3,e4⟩:=hw
 have hl:32<cs.length:=(List.getElem?_eq_some_iff.1 e3).1
 rw [x2Y e1]
 have:cs.take 32=regC regs:=by
  rw [x8t]
  apply List.ext_getElem?
  intro k
  by_cases hk:k<32
  ·rw [List.getElem?_take_of_lt hk,e2 k hk,List.getElem?_map,List.getElem?_range hk]
   rfl
  ·rw [List.getElem?_eq_none (by simp;omega),List.getElem?_eq_none (by simp;omega)]
 simp only [zb,List.drop_zero,this,Nat.zero_add]
 rw [if_pos (by omega)]
theorem WinO.len0 {tE:TypeId} {h:Heap} {b:Nat} {own:Option Nat} {regs:Nat→Int} (hw:WinO tE h b own regs []):∃ lv,zl h none (.ptr b 32)=some lv∧zk lv=some 0:=by
 obtain ⟨lv,h1,h2,_⟩:=hw.at.ld
 exact ⟨lv,h1,by simpa using h2.len⟩
def Fin (e:Ent):Prop:=Arm e∧e.don=true∧0≤e.ins.rd∧e.ins.rd<32
def retN (regs:Nat→Int) (d:List Ent) (i:Nat):Nat→Int:=(d.take i).foldl retR regs
theorem xfa (regs:Nat→Int) (d:List Ent) {i:Nat} (hi:i<d.length):retN regs d (i+1)=retR (retN regs d i) d[i]:=by
 unfold retN
 rw [List.take_succ_eq_append_getElem hi,List.foldl_append]
 rfl
theorem xds {h:Heap} {bw bx:Nat} {ow ox:Option Nat} {r:Nat→Int} {e:Ent} {l:List Ent} (ht:Two h bw bx ow ox r r (e::l) (e::l)) (hf:Fin e) (hlen:l.length<2147483647) :
  ∃ h1 h2 ox',WpF S0 0 x44 [.ptr bw 0] h (fun v h'=>v=.tup [.agg (rowE e),scb true]∧h'=h1)∧WpF S0 0 x2H [.ptr bx 0] h1 (fun v h'=>v=.tup [.agg (rowE e),scb true]∧h'=h2)∧Two h2 bw bx ow ox' (retR r e) (retR r e) l l:=by
 obtain ⟨⟨a1,a2⟩,a3,a4,a5⟩:=hf
 obtain ⟨h1,p1,p2,p3⟩:=x74 (xhj (base:=0) (Nat.zero_le _) ht.w a3 a1.1 a2 a1.2.2.2 a4 a5 hlen)
 have x1:WinO tyX h1 bx ox r (e::l):=ht.x.keep2 p3 (fun q=>ht.ne q.symm) ht.wx ht.xw (fun c hc hd=>ht.oo c hd hc)
 obtain ⟨h2,q1,ox',q2,q3⟩:=x74 (xf9 (base:=0) (Nat.zero_le _) x1 a3 ⟨a1,a2⟩ a4 a5 hlen)
 have lw:=p2.lt
 refine ⟨h1,h2,ox',p1,q1,p2.keep2 q3 ht.ne ht.xw ht.wx ht.oo,q2,ht.ne,ht.wx,fun hq=>ht.xw (q3.2.2 _ hq lw.1),fun c hc hd=>ht.oo c hc (q3.2.2 _ hd (lw.2 c hc))⟩
abbrev lawQ:Ex→Env→Heap→Prop:=endP x06.results 0 fun v h'=>v=.bool true∧h'=[]
set_option maxHeartbeats 2000000 in
theorem xkW {en:Env} {h:Heap} {lv:V} {n bw bx:Nat} {ow ox:Option Nat} {r:Nat→Int} {d:List Ent} (e0:en 0=lv) (e0l:zk lv=some n) (e9:en 9=.ptr bw 0) (e10:en 10=.ptr bx 0) (ht:Two h bw bx ow ox r r d d) (hd:d.length=n) (hn:n≤12) (hf:∀ e∈d,Fin e):WpC S0 0 (x1t 9 x06.body) en h lawQ:=by
 simp only [x06,x1t,lawQ]
 simp only [SQ,SQB,zm,AOp.opds,step,Opd.get,bin,zzc,IntKind.signed,zi,zj,zl,zb,unary,ze,zd,za,zo,zr,zh,zf,zg,zp,Cp.isFull,isNil,zq,simprocAttr,SQX,V.cells,e0]
 refine x1y (fun k en h'=>∃ i ow ox,k=n-i∧i≤n∧en 15=V.int i∧en 0=lv∧en 9=.ptr bw 0∧en 10=.ptr bx 0∧Two h' bw bx ow ox (retN r d i) (retN r d i) (d.drop i) (d.drop i)) n ⟨0,ow,ox,rfl,by omega,rfl,e0,e9,e10,ht⟩ ?_
 rintro _ en h' ⟨i,ow,ox,rfl,hin,e15,e0,e9,e10,ht⟩
 by_cases hi:i<n
 ·have hid:i<d.length:=by omega
  rw [List.drop_eq_getElem_cons hid] at ht
  obtain ⟨h1,h2,ox',c1,c2,ht2⟩:=xds ht (hf _ (List.getElem_mem hid)) (by rw [List.length_drop];omega)
  rw [← xfa r d hid] at ht2
  have ws:IntKind.i64.wrap ((i:Int)+1)=((i+1:Nat):Int):=by rw [x08 (by omega) (by omega)];omega
  simp only [SQ,SQB,zm,AOp.opds,step,Opd.get,bin,zzc,IntKind.signed,zi,zj,zl,zb,unary,ze,zd,za,zo,zr,zh,zf,zg,zp,Cp.isFull,isNil,zq,simprocAttr,SQX,V.cells,e15,e0,e0l,e9,e10,hi,zn c1,zn c2,ws]
  refine ⟨_,by omega,i+1,ow,ox',rfl,by omega,?_⟩
  simp [e0,e9,e10,Env.put,Env.upd,ht2]
 ·obtain rfl:i=n:=by omega
  rw [List.drop_of_length_le (by omega)] at ht
  obtain ⟨lv2,l1,l2⟩:=ht.w.len0
  have g1:=ht.w.ld32
  have g2:=ht.x.ld32
  generalize retN r d i=R at *
  simp only [SQ,SQB,zm,AOp.opds,step,Opd.get,bin,zzc,IntKind.signed,zi,zj,zb,unary,ze,zd,za,zo,zr,zh,zf,zg,zp,Cp.isFull,isNil,zq,simprocAttr,SQX,V.cells,e15,e0,e0l,e9,e10,hi,l1,l2,g1,g2,x1K,x6J,zn (x5x _),List.take_zero]
end
section
theorem xd7 {r:Nat→Int} (hr:∀ k,I64 (r k)) (l:List Ent):∀ e∈finD r l,∃ e0∈l,∃ n,I64 n∧e=e0.done n:=by
 induction l using x9X with
 | h0=>intro e he;cases he
 | h1 l x ih =>
  intro e he
  rw [x6g] at he
  rcases List.mem_append.1 he with he | he
  ·obtain ⟨e0,m,n,p,q⟩:=ih e he
   exact ⟨e0,List.mem_append_left _ m,n,p,q⟩
  ·obtain rfl:=List.mem_singleton.1 he
   refine ⟨x,by simp,_,?_,rfl⟩
   exact xki (xjv hr (fun e he=>by
    obtain ⟨e0,m,n,p,q⟩:=ih e he
    rw [q]
    exact p) _ _)
theorem xjQ {r:Nat→Int} {l0 l:List Ent} (hm:Mix r l0 l) {e:Ent} (he:e∈l):∃ e0∈l0,e=e0∨∃ n,e=e0.done n:=by
 obtain ⟨i,hi,rfl⟩:=List.getElem_of_mem he
 have h0:i<l0.length:=by rw [← hm.1];exact hi
 refine ⟨l0[i],List.getElem_mem h0,?_⟩
 rcases (xae hm h0 hi).2 with h | h
 ·exact .inl h
 ·exact .inr ⟨_,h⟩
theorem xfC {r:Nat→Int} {l0 l:List Ent} (hw:Wait l0) (hm:Mix r l0 l) {e:Ent} (he:e∈l):Ari e:=by
 obtain ⟨e0,m,rfl | ⟨n,rfl⟩⟩:=xjQ hm he
 ·exact (hw _ m).1.1
 ·exact (hw _ m).1.1
theorem xcx {r:Nat→Int} (hr:∀ k,I64 (r k)) {l0:List Ent} (hw:Wait l0) (hv:∀ e∈l0,I64 e.val) (i:Nat) {e:Ent} (he:e∈x5z r l0 i):Arm e∧I64 e.val:=by
 unfold x5z at he
 rcases List.mem_append.1 he with he | he
 ·obtain ⟨e0,m,n,p,rfl⟩:=xd7 hr l0 e (List.mem_of_mem_take he)
  exact ⟨(hw _ m).1,p⟩
 ·have m:=List.mem_of_mem_drop he
  exact ⟨(hw _ m).1,hv _ m⟩
theorem Two.nn {h:Heap} {bw bx:Nat} {ow ox:Option Nat} {rw rx:Nat→Int} {lw lx:List Ent} (ht:Two h bw bx ow ox rw rx lw lx):(ow≠ox∨ow=none)∧(ox≠ow∨ox=none):=by
 have:=ht.oo
 cases ow with
 | none=>exact ⟨.inr rfl,by cases ox<;>simp⟩
 | some c =>
  have:=this c rfl
  exact ⟨.inl fun q=>this q.symm,.inl this⟩
theorem xeR {h:Heap} {bw bx bi:Nat} {ow ox:Option Nat} {r:Nat→Int} {l0 l lx:List Ent} {cv dv ev:V} (hcv:zm cv=true) (hdv:zm dv=true) (hev:zm ev=true) (hw:Wait l0) (hm:Mix r l0 l) (hl:l0.length≤12) (hbi:bi<h.length) (hwi:ow≠some bi) (ht:Two h bw bx ow ox r r l lx) (n:Int) :
  ∃ h1 t l',WpF S0 0 x1z [.ptr bw 0,.agg [cv,dv,ev],sci n] h (fun v h'=>v=.bool t∧h'=h1)∧Two h1 bw bx ow ox r r l' lx∧Mix r l0 l'∧h1[bi]?=h[bi]?∧h.length≤h1.length:=by
 have fin:∀ {h1:Heap} {l':List Ent},WinO tyE h1 bw ow r l'→Keep h h1 ow→Two h1 bw bx ow ox r r l' lx∧h1[bi]?=h[bi]?∧h.length≤h1.length:=fun w k=>⟨⟨w,ht.x.keep k ht.wx ht.nn.1,ht.ne,ht.wx,ht.xw,ht.oo⟩,k.2 bi hbi (fun q=>hwi q.symm),k.1⟩
 have hll:l.length<2147483648:=by rw [hm.1];omega
 by_cases hn:n<0∨(l.length:Int)≤n
 ·obtain ⟨h1,p1,p2,p3⟩:=x74 (xi0 (base:=0) cv dv ev hcv hdv hev ht.w hn)
  obtain ⟨f1,f2,f3⟩:=fin p2 p3
  exact ⟨h1,false,l,p1,f1,hm,f2,f3⟩
 ·obtain ⟨i,rfl⟩:∃ i:Nat,n=i:=⟨n.toNat,by omega⟩
  obtain ⟨h1,p1,p2,p3⟩:=x74 (xcc (base:=0) cv dv ev hcv hdv hev ht.w (fun e he=>xfC hw hm he) hll (i:=i) (by omega))
  obtain ⟨f1,f2,f3⟩:=fin p2 p3
  exact ⟨h1,_,_,p1,f1,xaf hw hm i,f2,f3⟩
theorem xhc {h:Heap} {bw bx bi:Nat} {ow ox:Option Nat} {r:Nat→Int} {l0 l:List Ent} {cv dv ev:V} (hcv:zm cv=true) (hdv:zm dv=true) (hev:zm ev=true) (hr:∀ k,I64 (r k)) (hw:Wait l0) (hv:∀ e∈l0,I64 e.val) (hm:Mix r l0 l) (hl:l0.length≤12) (hbi:bi<h.length) (hwi:ow≠some bi) (hxi:ox≠some bi) {i:Nat} (hi:i<l0.length) (hti:l.take i=(finD r l0).take i) (ht:Two h bw bx ow ox r r l (x5z r l0 i)) :
  ∃ h1 h2 t l',WpF S0 0 x1z [.ptr bw 0,.agg [cv,dv,ev],V.int i] h (fun v h'=>v=.bool t∧h'=h1)∧WpF S0 0 x2E [.ptr bx 0,.agg [cv,dv,ev],V.int i] h1 (fun v h'=>v=.tup []∧h'=h2)∧Two h2 bw bx ow ox r r l' (x5z r l0 (i+1))∧Mix r l0 l'∧l'.take (i+1)=(finD r l0).take (i+1)∧h1[bi]?=h[bi]?∧h2[bi]?=h[bi]?∧h.length≤h2.length:=by
 have hll:l.length<2147483648:=by rw [hm.1];omega
 obtain ⟨h1,p1,p2,p3⟩:=x74 (xcc (base:=0) cv dv ev hcv hdv hev ht.w (fun e he=>xfC hw hm he) hll (i:=i) (by rw [hm.1];exact hi))
 have x1:=ht.x.keep p3 ht.wx ht.nn.1
 have hlt:i<(x5z r l0 i).length:=by rw [xat r l0 (by omega)];exact hi
 have hg:=xeS r l0 hi
 rw [List.getElem?_eq_getElem hlt] at hg
 injection hg with hg
 obtain ⟨h2,q1,q2,q3⟩:=x74 (xkg (base:=0) cv dv ev hcv hdv hev x1 (fun e he=>(xcx hr hw hv i he).1) hr (fun e he=>(xcx hr hw hv i he).2) (by rw [xat r l0 (by omega)];omega) hlt)
 rw [hg,xdt r l0 hi] at q2
 refine ⟨h1,h2,_,_,p1,q1,⟨p2.keep q3 ht.xw ht.nn.2,q2,ht.ne,ht.wx,ht.xw,ht.oo⟩,xaf hw hm i,xhE hw hm hi hti,p3.2 bi hbi (fun q=>hwi q.symm),?_,Nat.le_trans p3.1 q3.1⟩
 rw [q3.2 bi (Nat.lt_of_lt_of_le hbi p3.1) (fun q=>hxi q.symm)]
 exact p3.2 bi hbi (fun q=>hwi q.symm)
def x1G (k:Nat) (c:ACode):ACode:=match x1t k c with
 | .seq a _=>a
 | c=>c
set_option maxHeartbeats 2000000 in
theorem xoo {en:Env} {h:Heap} {lv cv dv ev:V} {n bw bx bi:Nat} {ow ox:Option Nat} {r:Nat→Int} {l0 l:List Ent} {ti:TypeId} {K:Env→Heap→Prop} {Q:Ex→Env→Heap→Prop} (e0:en 0=lv) (e0l:zk lv=some n) (e7:en 7=.ptr bi 0) (e9:en 9=.ptr bw 0) (e10:en 10=.ptr bx 0) (hcv:zm cv=true) (hdv:zm dv=true) (hev:zm ev=true) (hr:∀ k,I64 (r k)) (hw:Wait l0) (hv:∀ e∈l0,I64 e.val) (hm:Mix r l0 l) (hn0:l0.length=n) (hn:n≤12) (hbi:h[bi]?=some (.box ti [cv,dv,ev])) (hwi:ow≠some bi) (hxi:ox≠some bi) (ht:Two h bw bx ow ox r r l l0)
  (hK:∀ en' h',en' 0=lv→en' 9=.ptr bw 0→en' 10=.ptr bx 0→Two h' bw bx ow ox r r (finD r l0) (finD r l0)→K en' h'):WpC S0 0 (x1G 8 x06.body) en h (x58 K Q):=by
 simp only [x06,x1G,x1t]
 simp only [SQ,SQB,zm,AOp.opds,step,Opd.get,bin,zzc,IntKind.signed,zi,zj,zl,zb,unary,ze,zd,za,zo,zr,zh,zf,zg,zp,Cp.isFull,isNil,zq,simprocAttr,SQX,V.cells,e0]
 refine x1y (fun k en h'=>∃ i l,k=n-i∧i≤n∧en 14=V.int i∧en 0=lv∧en 7=.ptr bi 0∧en 9=.ptr bw 0∧en 10=.ptr bx 0∧h'[bi]?=some (.box ti [cv,dv,ev])∧Mix r l0 l∧l.take i=(finD r l0).take i∧Two h' bw bx ow ox r r l (x5z r l0 i)) n ⟨0,l,rfl,by omega,rfl,e0,e7,e9,e10,hbi,hm,by rw [List.take_zero,List.take_zero],ht⟩ ?_
 rintro _ en h' ⟨i,l,rfl,hin,e14,e0,e7,e9,e10,hbi,hm,hti,ht⟩
 by_cases hi:i<n
 ·obtain ⟨h1,h2,t,l',c1,c2,ht2,hm2,hti2,k1,k2,_⟩:=xhc hcv hdv hev hr hw hv hm (by omega) (get_lt' hbi) hwi hxi (i:=i) (by omega) hti ht
  have ws:IntKind.i64.wrap ((i:Int)+1)=((i+1:Nat):Int):=by rw [x08 (by omega) (by omega)];omega
  have m1:zl h' (some 3) (.ptr bi 0)=some (.agg [cv,dv,ev]):=by rw [x2Y hbi];rfl
  have m2:zl h1 (some 3) (.ptr bi 0)=some (.agg [cv,dv,ev]):=by rw [x2Y (k1.trans hbi)];rfl
  simp only [SQ,SQB,zm,AOp.opds,step,Opd.get,bin,zzc,IntKind.signed,zi,zj,zb,unary,ze,zd,za,zo,zr,zh,zf,zg,zp,Cp.isFull,isNil,zq,simprocAttr,SQX,V.cells,e14,e0,e0l,e7,e9,e10,hi,m1,m2,zn c1,zn c2,ws]
  refine ⟨_,by omega,i+1,l',rfl,by omega,?_⟩
  simp [e0,e7,e9,e10,Env.put,Env.upd,ht2,hm2,hti2,k2,hbi]
 ·obtain rfl:i=n:=by omega
  rw [List.take_of_length_le (by rw [hm.1];omega),List.take_of_length_le (by rw [x2o];omega)] at hti
  rw [hti,← hn0,xdu] at ht
  simp only [SQ,SQB,zm,AOp.opds,step,Opd.get,bin,zzc,IntKind.signed,zi,zj,zb,unary,ze,zd,za,zo,zr,zh,zf,zg,zp,Cp.isFull,isNil,zq,simprocAttr,SQX,V.cells,e14,e0,e0l,e7,e9,e10,hi,x2l]
  exact hK _ _ (by simp [Env.put,Env.upd,e0]) (by simp [Env.put,Env.upd,e9]) (by simp [Env.put,Env.upd,e10]) ht
set_option maxHeartbeats 2000000 in
theorem xop {en:Env} {h:Heap} {lv cv dv ev:V} {os:List Int} {oc:Cp} {bw bx bi:Nat} {ow ox:Option Nat} {r:Nat→Int} {l0:List Ent} {ti:TypeId} {K:Env→Heap→Prop} {Q:Ex→Env→Heap→Prop} (e0:en 0=lv) (e2:en 2=.slc oc 1 (os.map fun n=>[sci n])) (e7:en 7=.ptr bi 0) (e9:en 9=.ptr bw 0) (e10:en 10=.ptr bx 0) (hcv:zm cv=true) (hdv:zm dv=true) (hev:zm ev=true) (hw:Wait l0) (hn:l0.length≤12) (hos:os.length≤60) (hbi:h[bi]?=some (.box ti [cv,dv,ev])) (hwi:ow≠some bi) (ht:Two h bw bx ow ox r r l0 l0)
  (hK:∀ en' h' l,en' 0=lv→en' 7=.ptr bi 0→en' 9=.ptr bw 0→en' 10=.ptr bx 0→h'[bi]?=some (.box ti [cv,dv,ev])→Mix r l0 l→Two h' bw bx ow ox r r l l0→K en' h'):WpC S0 0 (x1G 7 x06.body) en h (x58 K Q):=by
 simp only [x06,x1G,x1t]
 simp only [SQ,SQB,zm,AOp.opds,step,Opd.get,bin,zzc,IntKind.signed,zi,zj,zl,zb,unary,ze,zd,za,zo,zr,zh,zf,zg,zp,Cp.isFull,isNil,zq,simprocAttr,SQX,V.cells,e0]
 refine x1y (fun k en h'=>∃ i l,k=os.length-i∧i≤os.length∧en 13=V.int i∧en 0=lv∧en 2=.slc oc 1 (os.map fun n=>[sci n])∧en 7=.ptr bi 0∧en 9=.ptr bw 0∧en 10=.ptr bx 0∧h'[bi]?=some (.box ti [cv,dv,ev])∧Mix r l0 l∧Two h' bw bx ow ox r r l l0) os.length ⟨0,l0,rfl,by omega,rfl,e0,e2,e7,e9,e10,hbi,xhD r l0,ht⟩ ?_
 rintro _ en h' ⟨i,l,rfl,hin,e13,e0,e2,e7,e9,e10,hbi,hm,ht⟩
 have sl:zk (.slc oc 1 (os.map fun n=>[sci n]))=some os.length:=by simp [zk]
 by_cases hi:i<os.length
 ·obtain ⟨h1,t,l',c1,ht2,hm2,k1,_⟩:=xeR hcv hdv hev hw hm hn (get_lt' hbi) hwi ht os[i]
  have ws:IntKind.i64.wrap ((i:Int)+1)=((i+1:Nat):Int):=by rw [x08 (by omega) (by omega)];omega
  have m1:zl h' (some 3) (.ptr bi 0)=some (.agg [cv,dv,ev]):=by rw [x2Y hbi];rfl
  have gi:(os.map fun n=>[sci n])[i]?=some [sci os[i]]:=by simp [hi]
  simp only [SQ,SQB,zm,AOp.opds,step,Opd.get,bin,zzc,IntKind.signed,zi,zj,zl,zb,unary,ze,zd,za,zo,zr,zh,zf,zg,zp,Cp.isFull,isNil,zq,simprocAttr,SQX,V.cells,e13,e0,e2,sl,e7,e9,e10,hi,gi,hbi,m1,zn c1,ws,List.length_map,List.take_succ_cons,List.take_zero]
  refine ⟨_,by omega,i+1,l',rfl,by omega,?_⟩
  simp [e0,e2,e7,e9,e10,Env.put,Env.upd,ht2,hm2,k1,hbi]
 ·simp only [SQ,SQB,zm,AOp.opds,step,Opd.get,bin,zzc,IntKind.signed,zi,zj,zl,zb,unary,ze,zd,za,zo,zr,zh,zf,zg,zp,Cp.isFull,isNil,zq,simprocAttr,SQX,V.cells,e13,e0,e2,sl,e7,e9,e10,hi,x2l]
  exact hK _ _ l (by simp [Env.put,Env.upd,e0]) (by simp [Env.put,Env.upd,e7]) (by simp [Env.put,Env.upd,e9]) (by simp [Env.put,Env.upd,e10]) hbi hm ht
end
section
abbrev sNil:V:=.sc (.slice none 0 0)
theorem xcs {tE:TypeId} {h:Heap} {b:Nat} {own:Option Nat} {regs:Nat→Int} {l:List Ent} (e:Ent) {lv:V} (hW:WinO tE h b own regs l) (hlv:zl h none (.ptr b 32)=some lv) (hnil:own=none→lv=sNil) (hl:l.length<100) :
  ∃ lv' h1 h2 r,x1D 0 h tE 18 lv [rowE e]=some (lv',h1)∧x0y 0 h1 1 (.ptr b 32) lv'=some h2∧WinO tE h2 b (some r) regs (l++[e])∧xbt h h2 b own (some r):=by
 have hbl:=hW.lt.1
 obtain ⟨t,cs,lv2,e1,e2,e3,e4⟩:=hW
 have hlv2:lv2=lv:=by
  rw [x2Y e1] at hlv
  have:some lv2=some lv:=by rw [← hlv,← e3];rfl
  injection this
 subst hlv2
 have cl:32<cs.length:=(List.getElem?_eq_some_iff.1 e3).1
 have hno:x5m 18 [rowE e]=true:=rfl
 have fin:∀ (h1:Heap) (r ee n:Nat) (rows:List (List V)),h1[b]?=some (.box t cs)→h1[r]?=some (.row tE 18 ee rows)→n=l.length+1→n≤rows.length→(∀ i (hi:i<(l++[e]).length),rows[i]?=some (rowE (l++[e])[i]))→∃ h2,x0y 0 h1 1 (.ptr b 32) (.hsl r ee 0 n)=some h2∧WinO tE h2 b (some r) regs (l++[e])∧h2.length=h1.length∧∀ c,c≠b→h2[c]?=h1[c]?:=by
  intro h1 r ee n rows g1 g2 hn g3 g4
  have hbr:b≠r:=fun q=>by subst q;rw [g1] at g2;cases g2
  refine ⟨_,xcD (x:=.hsl r ee 0 n) rfl g1 cl (Nat.zero_le _),⟨t,_,_,List.getElem?_set_self (get_lt' g1),fun k hk=>by rw [List.getElem?_set_ne (by omega)];exact e2 k hk,List.getElem?_set_self cl,.inr ⟨r,ee,rows,rfl,by rw [List.length_append,hn];rfl,by rw [List.getElem?_set_ne hbr];exact g2,by rw [List.length_append];exact hn▸g3,g4⟩⟩,by rw [List.length_set],fun c hc=>by rw [List.getElem?_set_ne (fun q=>hc q.symm)]⟩
 rcases e4 with ⟨rfl,q2,rfl⟩ | ⟨r,ee,rows,rfl,rfl,q1,q2,q3⟩
 ·obtain rfl:=hnil rfl
  obtain ⟨h2,p1,p2,p3,p4⟩:=fin (h++[.row tE 18 0 [rowE e]]) h.length 0 1 [rowE e] (by rw [List.getElem?_append_left hbl];exact e1) x3I rfl (Nat.le_refl _) (fun i hi=>by
   obtain rfl:i=0:=by simpa using hi
   rfl)
  refine ⟨_,_,h2,h.length,xjg (by simp) (by unfold lim;simp) hno,p1,p2,by rw [p3];simp,fun c c1 c2 _=>by rw [p4 c c2,List.getElem?_append_left c1],fun c hc c1=>?_⟩
  injection hc with hc
  omega
 ·have hrb:r≠b:=fun q=>by subst q;rw [e1] at q1;cases q1
  obtain ⟨h2,p1,p2,p3,p4⟩:=fin (h.set r (.row tE 18 (ee+1) (rows.take l.length++[rowE e]++rows.drop (l.length+1)))) r (ee+1) (l.length+1) _ (by rw [List.getElem?_set_ne hrb];exact e1) (List.getElem?_set_self (get_lt' q1)) rfl (by simp;omega) (fun i hi=>by
   rw [List.length_append,List.length_cons,List.length_nil] at hi
   by_cases h1:i<l.length
   ·rw [List.append_assoc,List.getElem?_append_left (by simp;omega),List.getElem?_take_of_lt h1,q3 i h1,List.getElem_append_left h1]
   ·obtain rfl:i=l.length:=by omega
    rw [List.append_assoc,List.getElem?_append_right (by simp;omega),List.length_take,Nat.min_eq_left q2,Nat.sub_self,List.getElem_append_right (Nat.le_refl _)]
    simp)
  refine ⟨_,_,h2,r,xkH q1 q2 (by simp) (by unfold lim;simp;omega) hno (Nat.zero_le _),p1,p2,by rw [p3];simp,fun c c1 c2 c3=>by rw [p4 c c2,List.getElem?_set_ne (fun q=>c3 (by rw [q]))],fun c hc _=>hc⟩
def x9f (h:Heap) (cv:V) (ws:List Nat) (rc:Option Nat):Prop:=(ws=[]∧cv=sNil∧rc=none)∨∃ r e t,rc=some r∧cv=.hsl r e 0 ws.length∧h[r]?=some (.row t 1 e (wrd ws))
theorem x9f.code {h:Heap} {cv:V} {ws:List Nat} {rc:Option Nat} (hc:x9f h cv ws rc) (ext:Heap):xh3 (h++ext) cv ws:=by
 rcases hc with ⟨rfl,rfl,_⟩ | ⟨r,e,t,_,rfl,hg⟩
 ·exact ⟨rfl,rfl,fun k hk=>by simp at hk⟩
 ·have hg2:(h++ext)[r]?=some (.row t 1 e (wrd ws)):=by rw [List.getElem?_append_left (get_lt' hg)];exact hg
  refine ⟨rfl,rfl,fun k hk=>⟨_,x5I hg2 hk (by simp),?_⟩⟩
  rw [x5R hg2 (xmT hk) (by simp)]
  rfl
theorem x9f.keep2 {h h':Heap} {cv:V} {ws:List Nat} {rc:Option Nat} {b:Nat} {o o':Option Nat} (hc:x9f h cv ws rc) (hk:xbt h h' b o o') (h1:rc≠some b) (h2:∀ c,rc=some c→o≠some c):x9f h' cv ws rc:=by
 rcases hc with q | ⟨r,e,t,rfl,rfl,hg⟩
 ·exact .inl q
 ·exact .inr ⟨r,e,t,rfl,rfl,by rw [hk.2.1 r (get_lt' hg) (fun q=>h1 (by rw [q])) (fun q=>h2 r rfl q.symm)];exact hg⟩
theorem x9f.lt {h:Heap} {cv:V} {ws:List Nat} {rc:Option Nat} (hc:x9f h cv ws rc):∀ c,rc=some c→c<h.length:=by
 rcases hc with ⟨_,_,rfl⟩ | ⟨r,e,t,rfl,rfl,hg⟩
 ·intro c hc;cases hc
 ·intro c hc
  injection hc with hc
  subst hc
  exact get_lt' hg
def x85 (li:List Ins):List Ent:=li.mapIdx fun k x=>ent0 x (65536+4*(k:Int))
end
section
structure Full (h:Heap) (bi bw bx:Nat) (rc ow ox:Option Nat) (ti:TypeId) (cv dv ev:V) (ws:List Nat) (r:Nat→Int) (l:List Ent):Prop where
 two:Two h bw bx ow ox r r l l
 nw:ow=none→zl h none (.ptr bw 32)=some sNil
 nx:ox=none→zl h none (.ptr bx 32)=some sNil
 im:h[bi]?=some (.box ti [cv,dv,ev])
 code:x9f h cv ws rc
 d1:bi≠bw
 d2:bi≠bx
 d3:ow≠some bi
 d4:ox≠some bi
 d5:rc≠some bw
 d6:rc≠some bx
 d7:∀ c,rc=some c→ow≠some c∧ox≠some c
theorem WinO.ld1 {tE:TypeId} {h:Heap} {b:Nat} {own:Option Nat} {regs:Nat→Int} {l:List Ent} (hw:WinO tE h b own regs l):∃ lv,zl h none (.ptr b 32)=some lv:=by
 obtain ⟨lv,h1,_,_⟩:=hw.at.ld
 exact ⟨lv,h1⟩
theorem xbt.no {h h':Heap} {b:Nat} {o:Option Nat} {r q:Nat} (hk:xbt h h' b o (some r)) (hq:q<h.length) (ho:o≠some q):(some r:Option Nat)≠some q:=fun e=>by
 injection e with e
 subst e
 exact ho (hk.2.2 _ rfl hq)
theorem xg9 {h:Heap} {bi bw bx:Nat} {rc ow ox:Option Nat} {ti:TypeId} {cv dv ev:V} {ws:List Nat} {r:Nat→Int} {l:List Ent} (f:Full h bi bw bx rc ow ox ti cv dv ev ws r l) (e:Ent) (hl:l.length<100) :
  ∃ lw lw' h1 h2 lx lx' h3 h4 ow' ox',zl h none (.ptr bw 32)=some lw∧x1D 0 h tyE 18 lw [rowE e]=some (lw',h1)∧x0y 0 h1 1 (.ptr bw 32) lw'=some h2∧zl h2 none (.ptr bx 32)=some lx∧x1D 0 h2 tyX 18 lx [rowE e]=some (lx',h3)∧x0y 0 h3 1 (.ptr bx 32) lx'=some h4∧Full h4 bi bw bx rc (some ow') (some ox') ti cv dv ev ws r (l++[e]):=by
 obtain ⟨lw,hlw⟩:=f.two.w.ld1
 obtain ⟨lw',h1,h2,ow',p1,p2,p3,p4⟩:=xcs e f.two.w hlw (fun q=>by
  have:=f.nw q
  rw [hlw] at this
  injection this) hl
 have bwl:=f.two.w.lt.1
 have bxl:=f.two.x.lt.1
 have bil:=get_lt' f.im
 have x2:=f.two.x.keep2 p4 (fun q=>f.two.ne q.symm) f.two.wx f.two.xw (fun c hc hd=>f.two.oo c hd hc)
 have im2:h2[bi]?=some (.box ti [cv,dv,ev]):=by rw [p4.2.1 bi bil f.d1 (fun q=>f.d3 q.symm)];exact f.im
 have code2:=f.code.keep2 p4 f.d5 (fun c hc=>(f.d7 c hc).1)
 obtain ⟨lx,hlx⟩:=x2.ld1
 obtain ⟨lx',h3,h4,ox',q1,q2,q3,q4⟩:=xcs e x2 hlx (fun q=>by
  have h1:=f.nx q
  obtain ⟨t,cs,lv,g,_⟩:=f.two.x
  have g2:h2[bx]?=some (.box t cs):=by rw [p4.2.1 bx bxl (fun q=>f.two.ne q.symm) (fun q=>f.two.wx q.symm)];exact g
  rw [x2Y g] at h1
  rw [x2Y g2,h1] at hlx
  injection hlx with hlx
  exact hlx.symm) hl
 have wbx:(some ow':Option Nat)≠some bx:=p4.no bxl f.two.wx
 have wbi:(some ow':Option Nat)≠some bi:=p4.no bil f.d3
 have l12:=p4.1
 have owl:=p3.lt.2 ow' rfl
 have oo2:∀ c,(some ow':Option Nat)=some c→ox≠some c:=fun c hc hd=>by
  injection hc with hc
  subst hc
  exact f.two.oo _ (p4.2.2 _ rfl (f.two.x.lt.2 _ hd)) hd
 have xbw:(some ox':Option Nat)≠some bw:=q4.no (by omega) f.two.xw
 have xbi:(some ox':Option Nat)≠some bi:=q4.no (by omega) f.d4
 have w4:=p3.keep2 q4 f.two.ne f.two.xw wbx oo2
 have oo4:∀ c,(some ow':Option Nat)=some c→(some ox':Option Nat)≠some c:=fun c hc=>by
  injection hc with hc
  subst hc
  exact q4.no owl (oo2 _ rfl)
 have d7':∀ c,rc=some c→ox≠some c:=fun c hc=>(f.d7 c hc).2
 have d72:∀ c,rc=some c→(some ow':Option Nat)≠some c:=fun c hc=>p4.no (f.code.lt c hc) (f.d7 c hc).1
 refine ⟨lw,lw',h1,h2,lx,lx',h3,h4,ow',ox',hlw,p1,p2,hlx,q1,q2,⟨⟨w4,q3,f.two.ne,wbx,xbw,oo4⟩,(fun q=>by cases q),(fun q=>by cases q),?_,code2.keep2 q4 f.d6 d7',f.d1,f.d2,wbi,xbi,f.d5,f.d6,fun c hc=>⟨d72 c hc,q4.no (by have:=f.code.lt c hc;omega) (d7' c hc)⟩⟩⟩
 rw [q4.2.1 bi (by omega) f.d2 (fun q=>f.d4 q.symm)]
 exact im2
theorem x4r (li:List Ins):(x85 li).length=li.length:=by simp [x85]
theorem xbh (li:List Ins) {k:Nat} (hk:k<li.length):(x85 li)[k]'(by rw [x4r];exact hk)=ent0 li[k] (65536+4*(k:Int)):=by simp [x85]
set_option maxHeartbeats 2000000 in
theorem xoq {en:Env} {h:Heap} {lv cv dv ev:V} {li:List Ins} {bw bx bi:Nat} {rc ow ox:Option Nat} {r:Nat→Int} {ti:TypeId} {K:Env→Heap→Prop} {Q:Ex→Env→Heap→Prop} {e2v:V} (e0:en 0=lv) (e0l:zk lv=some li.length) (e2:en 2=e2v) (e7:en 7=.ptr bi 0) (e9:en 9=.ptr bw 0) (e10:en 10=.ptr bx 0) (hdv:zm dv=true) (hev:zm ev=true) (hn:li.length≤12) (hi:∀ x∈li,22≤x.op∧x.op≤62∧x.may=true) (hf:Full h bi bw bx rc ow ox ti cv dv ev (li.map encI) r [])
  (hK:∀ en' h' ow ox,en' 0=lv→en' 2=e2v→en' 7=.ptr bi 0→en' 9=.ptr bw 0→en' 10=.ptr bx 0→Full h' bi bw bx rc ow ox ti cv dv ev (li.map encI) r (x85 li)→K en' h'):WpC S0 0 (x1G 6 x06.body) en h (x58 K Q):=by
 simp only [x06,x1G,x1t]
 simp only [SQ,SQB,zm,AOp.opds,step,Opd.get,bin,zzc,IntKind.signed,zi,zj,zl,zb,unary,ze,zd,za,zo,zr,zh,zf,zg,zp,Cp.isFull,isNil,zq,simprocAttr,SQX,V.cells,e0]
 refine x1y (fun k en h'=>∃ i ow ox,k=li.length-i∧i≤li.length∧en 11=V.int i∧en 0=lv∧en 2=e2v∧en 7=.ptr bi 0∧en 9=.ptr bw 0∧en 10=.ptr bx 0∧Full h' bi bw bx rc ow ox ti cv dv ev (li.map encI) r ((x85 li).take i)) li.length ⟨0,ow,ox,rfl,by omega,rfl,e0,e2,e7,e9,e10,hf⟩ ?_
 rintro _ en h' ⟨i,ow,ox,rfl,hin,e11,e0,e2,e7,e9,e10,hf⟩
 by_cases hil:i<li.length
 ·have hF:=fun base=>xbd (base:=base) cv dv ev hn hi hil h' hf.code.code hdv hev
  obtain ⟨lw,lw',h1,h2,lx,lx',h3,h4,ow',ox',p1,p2,p3,p4,p5,p6,hf2⟩:=xg9 hf (ent0 li[i] (65536+4*(i:Int))) (by simp [x4r];omega)
  have hs:(x85 li).take i++[ent0 li[i] (65536+4*(i:Int))]=(x85 li).take (i+1):=by
   rw [List.take_succ_eq_append_getElem (by rw [x4r];exact hil),xbh li hil]
  rw [hs] at hf2
  generalize hee:ent0 li[i] (65536+4*(i:Int))=ee at *
  have w1:IntKind.i64.wrap (4*(i:Int))=4*(i:Int):=x08 (by omega) (by omega)
  have w2:IntKind.i64.wrap (65536+4*(i:Int))=65536+4*(i:Int):=x08 (by omega) (by omega)
  have ws:IntKind.i64.wrap ((i:Int)+1)=((i+1:Nat):Int):=by rw [x08 (by omega) (by omega)];omega
  have m1:zl h' (some 3) (.ptr bi 0)=some (.agg [cv,dv,ev]):=by rw [x2Y hf.im];rfl
  have hg1:(rowE ee).all x1h=true:=rfl
  have hg2:(rowE ee).length=18:=rfl
  have hg3:(rowE ee).all zm=true:=rfl
  have c18:zb (some 18) (rowE ee) 0=some (.agg (rowE ee)):=rfl
  have hsr:∀ hh,x30 18 hh (.slc .lit 18 [rowE ee])=some [rowE ee]:=fun _=>rfl
  simp only [SQ,SQB,zm,AOp.opds,step,Opd.get,bin,zzc,IntKind.signed,zi,zj,unary,ze,zd,za,zo,zr,zh,zf,zg,zp,Cp.isFull,isNil,zq,simprocAttr,SQX,V.cells,hsr,e11,e0,e0l,e7,e9,e10,hil,m1,w1,w2,zn (hF _),hg1,hg2,hg3,ldE,c18,x0J,zv,List.set_cons_zero,List.all_cons,List.all_nil,Bool.and_true,p1,p2,p3,p4,p5,p6,ws]
  exact ⟨_,by omega,i+1,some ow',some ox',rfl,by omega,rfl,e2,hf2⟩
 ·obtain rfl:i=li.length:=by omega
  rw [List.take_of_length_le (by rw [x4r];exact Nat.le_refl _)] at hf
  simp only [SQ,SQB,zm,AOp.opds,step,Opd.get,bin,zzc,IntKind.signed,zi,zj,zb,unary,ze,zd,za,zo,zr,zh,zf,zg,zp,Cp.isFull,isNil,zq,simprocAttr,SQX,V.cells,e11,e0,e0l,e7,e9,e10,hil,x2l]
  exact hK _ _ ow ox (by simp [Env.put,Env.upd,e0]) (by simp [Env.put,Env.upd,e2]) (by simp [Env.put,Env.upd,e7]) (by simp [Env.put,Env.upd,e9]) (by simp [Env.put,Env.upd,e10]) hf
end
section
theorem x8X:∀ h:Heap,x7n h h=true
 | []=>rfl
 | o::h=>by
  show (xbg o o&&x7n h h)=true
  rw [x8X h,(x8W o o).2 rfl]
  rfl
theorem xf8 {f:Nat→Nat}:∀ {l:List V},(∀ v∈l,∃ x,v=.sc x)→rnVs f l=l
 | [],_=>rfl
 | v::l,h=>by
  obtain ⟨x,rfl⟩:=h _ (.head _)
  show rnV f (.sc x)::rnVs f l=_
  rw [xf8 fun v hv=>h v (.tail _ hv)]
  rfl
theorem xhR {h:Heap} {t1 t2:TypeId} {c:List V} {ds:List Nat} {E1 E0:Env} (hc:∀ v∈c,∃ x,v=.sc x) (hE:∀ t∈ds,E0 t=rnV (rnI h.length [1,0]) (E1 t)) :
  isoB [1,0] [1,0] ds h (E1,h++[.box t2 c]++[.box t1 c]) (E0,h++[.box t1 c]++[.box t2 c])=true:=by
 have hr:rnVs (rnI h.length [1,0]) c=c:=xf8 hc
 have g0:∀ a b:Obj,(h++[a]++[b])[h.length]?=some a:=fun a b=>by
  rw [List.append_assoc,List.getElem?_append_right (Nat.le_refl _),Nat.sub_self];rfl
 have g1:∀ a b:Obj,(h++[a]++[b])[h.length+1]?=some b:=fun a b=>by
  rw [List.append_assoc,List.getElem?_append_right (by omega),Nat.add_sub_cancel_left];rfl
 have tk:∀ a b:Obj,(h++[a]++[b]).take h.length=h:=fun a b=>by
  rw [List.append_assoc,List.take_append_of_le_length (Nat.le_refl _),List.take_length]
 unfold isoB
 rw [if_neg (by decide)]
 simp only [Bool.and_eq_true,Bool.or_eq_true,tk,x8X,List.all_eq_true]
 refine ⟨by decide,by simp,by simp,.inl ⟨trivial,trivial⟩,fun i hi=>?_,fun t ht=>(x7E _ _).2 (hE t ht)⟩
 have h2:i=0∨i=1:=by
  have:=List.mem_range.1 hi
  simp at this
  omega
 rcases h2 with rfl | rfl
 ·show eqOO ((h++[.box t1 c]++[.box t2 c])[h.length]?) (((h++[.box t2 c]++[.box t1 c])[h.length+1]?).map _)=true
  rw [g0,g1,x7m]
  simp only [Option.map_some,rnO,hr]
 ·show eqOO ((h++[.box t1 c]++[.box t2 c])[h.length+1]?) (((h++[.box t2 c]++[.box t1 c])[h.length]?).map _)=true
  rw [g1,g0,x7m]
  simp only [Option.map_some,rnO,hr]
theorem xhM {h:Heap} {b e:Nat} {t:TypeId} {r:Nat→Int} (hg:h[b]?=some (.row t 1 e (vrow 32 fun k=>.int .i64 (r k)))):zl h (some 32) (.rptr b e 0 0)=some (.agg (regC r)):=by
 simp only [zl,rowAt,hg,if_true,x75 (show 0<32 by decide),Option.bind_some,Option.getD_some,List.length_cons,List.length_nil,x76,zb]
 rfl
theorem xiX {r:Nat→Int}:x0q [sci 0,sci 0,sci 0,sci 0,sci 0,sci 0,sci 0,sci 0,sci 0,sci 0,sci 0,sci 0,sci 0,sci 0,sci 0,sci 0,sci 0,sci 0,sci 0,sci 0,sci 0,sci 0,sci 0,sci 0,sci 0,sci 0,sci 0,sci 0,sci 0,sci 0,sci 0,sci 0,sNil] [(0,32,.agg (regC r))]=some (regC r++[sNil]):=rfl
set_option maxHeartbeats 2000000 in
theorem xni {en:Env} {h:Heap} {lv e2v e7v:V} {b e:Nat} {t:TypeId} {r:Nat→Int} {K:Env→Heap→Prop} {Q:Ex→Env→Heap→Prop} (e0:en 0=lv) (e2:en 2=e2v) (e7:en 7=e7v) (e4:en 4=.rptr b e 0 0) (hg:h[b]?=some (.row t 1 e (vrow 32 fun k=>.int .i64 (r k))))
  (hK:∀ en' t1 t2,en' 0=lv→en' 2=e2v→en' 7=e7v→en' 9=.ptr h.length 0→en' 10=.ptr (h.length+1) 0→K en' (h++[.box t1 (regC r++[sNil])]++[.box t2 (regC r++[sNil])])):WpC S0 0 (x1G 5 x06.body) en h (x58 K Q):=by
 have l0:=xhM hg
 have hcs:∀ v∈regC r++[sNil],∃ x,v=.sc x:=fun v hv=>by
  rcases List.mem_append.1 hv with hv | hv
  ·rw [x8t] at hv
   obtain ⟨k,_,rfl⟩:=List.mem_map.1 hv
   exact ⟨_,rfl⟩
  ·obtain rfl:=List.mem_singleton.1 hv
   exact ⟨_,rfl⟩
 simp only [x06,x1G,x1t]
 apply WpC.regionM
 ·simp only [SQ,SQB,zm,AOp.opds,step,Opd.get,zk,bin,zzc,IntKind.signed,zi,zj,zb,unary,ze,zd,za,zo,zr,zh,zf,zg,zp,Cp.isFull,isNil,zq,simprocAttr,SQX,V.cells,e4,l0,x0g,xiX]
  exact ⟨rfl,rfl⟩
 ·intro l hl
  obtain rfl:=List.mem_singleton.1 hl
  simp only [SQ,SQB,zm,AOp.opds,step,Opd.get,zk,bin,zzc,IntKind.signed,zi,zj,zb,unary,ze,zd,za,zo,zr,zh,zf,zg,zp,Cp.isFull,isNil,zq,simprocAttr,SQX,V.cells,e4,l0,x0g,xiX]
  refine ⟨([1,0],[1,0]),by simp,?_⟩
  refine xhR hcs fun t ht=>?_
  have hr1:rnI h.length [1,0] h.length=h.length+1:=by simp [rnI]
  have hr2:rnI h.length [1,0] (h.length+1)=h.length:=by simp [rnI]
  have ha:∀ f:Nat→Nat,rnV f (.agg (regC r))=.agg (regC r):=fun _=>rfl
  have hb:∀ f:Nat→Nat,rnV f (.agg (regC r++[sNil]))=.agg (regC r++[sNil]):=fun _=>rfl
  have hp:∀ (f:Nat→Nat) b,rnV f (.ptr b 0)=.ptr (f b) 0:=fun _ _=>rfl
  have hc:t=67∨t=68∨t=70∨t=71∨t=69∨t=9∨t=72∨t=10:=by simpa [xbj] using ht
  rcases hc with rfl | rfl | rfl | rfl | rfl | rfl | rfl | rfl
  ·rfl
  ·rfl
  ·rfl
  ·rfl
  all_goals simp [Env.put,Env.upd,hp,hr1,hr2]
 ·exact hK _ _ _ (by simp [Env.put,Env.upd,e0]) (by simp [Env.put,Env.upd,e2]) (by simp [Env.put,Env.upd,e7]) (by simp [Env.put,Env.upd]) (by simp [Env.put,Env.upd])
end
section
abbrev tyU:TypeId:=42
def xcp (h:Heap) (cv:V) (ws:List Nat) (rc:Option Nat):Prop:=(ws=[]∧cv=sNil∧rc=none)∨∃ r e,rc=some r∧cv=.hsl r e 0 ws.length∧h[r]?=some (.row tyU 1 e (wrd ws))
theorem xcp.o {h:Heap} {cv:V} {ws:List Nat} {rc:Option Nat} (hc:xcp h cv ws rc):x9f h cv ws rc:=by
 rcases hc with q | ⟨r,e,p1,p2,p3⟩
 ·exact .inl q
 ·exact .inr ⟨r,e,_,p1,p2,p3⟩
theorem xgu {h:Heap} {bi:Nat} {ti:TypeId} {cv ev:V} {ws:List Nat} {rc:Option Nat} (w:Nat) (hc:xcp h cv ws rc) (hb:h[bi]?=some (.box ti [cv,sNil,ev])) (hl:ws.length<100) :
  ∃ cv' h1 h2 rc',x1D 0 h tyU 1 cv [[U32 w]]=some (cv',h1)∧x0y 0 h1 1 (.ptr bi 0) cv'=some h2∧h2[bi]?=some (.box ti [cv',sNil,ev])∧xcp h2 cv' (ws++[w]) (some rc')∧xbt h h2 bi rc (some rc'):=by
 have hbl:=get_lt' hb
 have hno:x5m 1 [[U32 w]]=true:=rfl
 have fin:∀ (h1:Heap) (r e n:Nat),h1[bi]?=some (.box ti [cv,sNil,ev])→h1[r]?=some (.row tyU 1 e (wrd (ws++[w])))→n=(ws++[w]).length→∃ h2,x0y 0 h1 1 (.ptr bi 0) (.hsl r e 0 n)=some h2∧h2[bi]?=some (.box ti [.hsl r e 0 n,sNil,ev])∧xcp h2 (.hsl r e 0 n) (ws++[w]) (some r)∧h2.length=h1.length∧∀ c,c≠bi→h2[c]?=h1[c]?:=by
  intro h1 r e n g1 g2 hn
  have hbr:bi≠r:=fun q=>by subst q;rw [g1] at g2;cases g2
  exact ⟨_,xcD (x:=.hsl r e 0 n) rfl g1 (by simp) (Nat.zero_le _),List.getElem?_set_self (get_lt' g1),.inr ⟨r,e,rfl,by rw [hn],by rw [List.getElem?_set_ne hbr];exact g2⟩,by rw [List.length_set],fun c hc=>by rw [List.getElem?_set_ne (fun q=>hc q.symm)]⟩
 rcases hc with ⟨rfl,rfl,rfl⟩ | ⟨r,e,rfl,rfl,hg⟩
 ·obtain ⟨h2,p1,p2,p3,p4,p5⟩:=fin (h++[.row tyU 1 0 [[U32 w]]]) h.length 0 1 (by rw [List.getElem?_append_left hbl];exact hb) x3I rfl
  refine ⟨_,_,h2,h.length,xjg (by simp) (by unfold lim;simp) hno,p1,p2,p3,by rw [p4];simp,fun c c1 c2 _=>by rw [p5 c c2,List.getElem?_append_left c1],fun c hc c1=>?_⟩
  injection hc with hc
  omega
 ·have hrb:r≠bi:=fun q=>by subst q;rw [hb] at hg;cases hg
  have hwl:(wrd ws).length=ws.length:=by simp
  obtain ⟨h2,p1,p2,p3,p4,p5⟩:=fin (h.set r (.row tyU 1 (e+1) (wrd (ws++[w])))) r (e+1) (ws.length+1) (by rw [List.getElem?_set_ne hrb];exact hb) (List.getElem?_set_self (get_lt' hg)) (by simp)
  have ha:=xmX (base:=0) (new:=[[U32 w]]) hg (by simp) (by unfold lim;simp;omega) hno (Nat.zero_le _)
  rw [hwl,show wrd ws++[[U32 w]]=wrd (ws++[w]) by simp] at ha
  exact ⟨_,_,h2,r,ha,p1,p2,p3,by rw [p4];simp,fun c c1 c2 c3=>by rw [p5 c c2,List.getElem?_set_ne (fun q=>c3 (by rw [q]))],fun c hc _=>hc⟩
abbrev x7h (x:Ins):List V:=[sci x.op,sci x.rd,sci x.a,sci x.b,sci x.imm,scb x.aq,scb x.rl]
def okI (x:Ins):Prop:=22≤x.op∧x.op≤62∧x.may=true
set_option maxHeartbeats 2000000 in
theorem xos {en:Env} {h:Heap} {oc:Cp} {ev e2v e4v:V} {li:List Ins} {bi r0:Nat} {o0:Obj} {ti:TypeId} {K:Env→Heap→Prop} (e0:en 0=.slc oc 7 (li.map x7h)) (e2:en 2=e2v) (e4:en 4=e4v) (e7:en 7=.ptr bi 0) (hn:li.length≤12) (hr0:h[r0]?=some o0) (hb:h[bi]?=some (.box ti [sNil,sNil,ev])) (hd:r0≠bi)
  (hK:∀ en' h' cv rc,en' 0=.slc oc 7 (li.map x7h)→en' 2=e2v→en' 4=e4v→en' 7=.ptr bi 0→h'[r0]?=some o0→h'[bi]?=some (.box ti [cv,sNil,ev])→xcp h' cv (li.map encI) rc→rc≠some r0→(∀ x∈li,okI x)→K en' h'):WpC S0 0 (x1G 3 x06.body) en h (x58 K lawQ):=by
 simp only [x06,x1G,x1t,lawQ]
 simp only [SQ,SQB,zm,AOp.opds,step,Opd.get,bin,zzc,IntKind.signed,zi,zj,zl,zb,unary,ze,zd,za,zo,zr,zh,zf,zg,zp,Cp.isFull,isNil,zq,simprocAttr,SQX,V.cells,e0]
 refine x1y (fun k en h'=>∃ i cv rc,k=li.length-i∧i≤li.length∧en 8=V.int i∧en 0=.slc oc 7 (li.map x7h)∧en 2=e2v∧en 4=e4v∧en 7=.ptr bi 0∧h'[r0]?=some o0∧h'[bi]?=some (.box ti [cv,sNil,ev])∧xcp h' cv ((li.take i).map encI) rc∧rc≠some r0∧∀ x∈li.take i,okI x) li.length ⟨0,sNil,none,rfl,by omega,rfl,e0,e2,e4,e7,hr0,hb,.inl ⟨rfl,rfl,rfl⟩,by simp,by simp⟩ ?_
 rintro _ en h' ⟨i,cv,rc,rfl,hin,e8,e0,e2,e4,e7,hr0,hb,hc,hrc,hok⟩
 have sl:zk (.slc oc 7 (li.map x7h))=some li.length:=by simp [zk]
 by_cases hil:i<li.length
 ·have gi:(li.map x7h)[i]?=some (x7h li[i]):=by simp [hil]
  have hM:=fun base h=>xfG (base:=base) li[i].op li[i].rd li[i].a li[i].b li[i].imm li[i].aq li[i].rl h
  have hm:mayI li[i].op li[i].rd li[i].a li[i].b li[i].imm li[i].aq li[i].rl=li[i].may:=rfl
  rw [hm] at hM
  have fw:∀ b:Bool,IntKind.i64.wrap ((i:Int)+1)=((i+1:Nat):Int):=fun _=>by rw [x08 (by omega) (by omega)];omega
  have ws:=fw true
  by_cases hgo:okI li[i]
  ·obtain ⟨g1,g2,g3⟩:=hgo
   rw [g3] at hM
   have hE:=fun base h=>xja (base:=base) li[i] g1 g2 h
   have n1:¬ li[i].op<22:=by omega
   have n2:¬ 62<li[i].op:=by omega
   obtain ⟨cv',h1,h2,rc',p1,p2,p3,p4,p5⟩:=xgu (encI li[i]) hc hb (by simp;omega)
   have hs:(li.take i).map encI++[encI li[i]]=(li.take (i+1)).map encI:=by
    rw [List.take_succ_eq_append_getElem hil,List.map_append];rfl
   rw [hs] at p4
   have l0:zl h' none (.ptr bi 0)=some cv:=by rw [x2Y hb];rfl
   have hsr:∀ hh,x30 1 hh (.slc .lit 1 [[U32 (encI li[i])]])=some [[U32 (encI li[i])]]:=fun _=>rfl
   simp only [SQ,SQB,zm,AOp.opds,step,Opd.get,bin,zzc,IntKind.signed,zi,zj,zb,unary,ze,zd,za,zo,zr,zh,zf,zg,zp,Cp.isFull,isNil,zq,simprocAttr,SQX,V.cells,e8,e0,sl,e2,e4,e7,hil,gi,ldE,List.drop_zero,zn (hM _ _),n1,n2,l0,x7K,x7J (hE _ _),xdY,x1F,x9E,x9F,x0J,zv,hsr,p1,p2,ws,implies_true,true_and,List.set_cons_zero,List.all_cons,List.all_nil,Bool.and_true,List.take_succ_cons,List.take_zero]
   refine ⟨_,by omega,i+1,cv',some rc',rfl,by omega,rfl,by rw [p5.2.1 r0 (get_lt' hr0) hd (fun q=>hrc q.symm)];exact hr0,p3,p4,p5.no (get_lt' hr0) hrc,fun x hx=>?_⟩
   rw [List.take_succ_eq_append_getElem hil] at hx
   rcases List.mem_append.1 hx with hx | hx
   ·exact hok x hx
   ·obtain rfl:=List.mem_singleton.1 hx
    exact ⟨g1,g2,g3⟩
  ·cases hmm:li[i].may with
   | false =>
    rw [hmm] at hM
    simp only [SQ,SQB,zm,AOp.opds,step,Opd.get,bin,zzc,IntKind.signed,zi,zj,zb,unary,ze,zd,za,zo,zr,zh,zf,zg,zp,Cp.isFull,isNil,zq,simprocAttr,SQX,V.cells,e8,e0,sl,e2,e4,e7,hil,gi,ldE,List.drop_zero,zn (hM _ _),zn (x5x _),x79,List.take_succ_cons,List.take_zero]
   | true =>
    rw [hmm] at hM
    by_cases n1:li[i].op<22
    ·simp only [SQ,SQB,zm,AOp.opds,step,Opd.get,bin,zzc,IntKind.signed,zi,zj,zb,unary,ze,zd,za,zo,zr,zh,zf,zg,zp,Cp.isFull,isNil,zq,simprocAttr,SQX,V.cells,e8,e0,sl,e2,e4,e7,hil,gi,ldE,List.drop_zero,zn (hM _ _),n1,zn (x5x _),x79,List.take_succ_cons,List.take_zero]
    ·have n2:62<li[i].op:=by
      refine Decidable.byContradiction fun q=>hgo ⟨by omega,by omega,hmm⟩
     simp only [SQ,SQB,zm,AOp.opds,step,Opd.get,bin,zzc,IntKind.signed,zi,zj,zb,unary,ze,zd,za,zo,zr,zh,zf,zg,zp,Cp.isFull,isNil,zq,simprocAttr,SQX,V.cells,e8,e0,sl,e2,e4,e7,hil,gi,ldE,List.drop_zero,zn (hM _ _),n1,n2,zn (x5x _),x79,List.take_succ_cons,List.take_zero]
 ·obtain rfl:i=li.length:=by omega
  rw [List.take_length] at hc hok
  simp only [SQ,SQB,zm,AOp.opds,step,Opd.get,bin,zzc,IntKind.signed,zi,zj,zl,zb,unary,ze,zd,za,zo,zr,zh,zf,zg,zp,Cp.isFull,isNil,zq,simprocAttr,SQX,V.cells,e8,e0,sl,e2,e4,e7,hil,x2l]
  exact hK _ _ cv rc (by simp [Env.put,Env.upd,e0]) (by simp [Env.put,Env.upd,e2]) (by simp [Env.put,Env.upd,e4]) (by simp [Env.put,Env.upd,e7]) hr0 hb hc hrc hok
end
section
abbrev lawB:ACode:=x06.body
theorem xhN:x1t 0 lawB=.seq (x1G 0 lawB) (x1t 1 lawB)∧x1t 1 lawB=.seq (x1G 1 lawB) (x1t 2 lawB)∧x1t 2 lawB=.seq (x1G 2 lawB) (x1t 3 lawB)∧x1t 3 lawB=.seq (x1G 3 lawB) (x1t 4 lawB)∧x1t 4 lawB=.seq (x1G 4 lawB) (x1t 5 lawB)∧x1t 5 lawB=.seq (x1G 5 lawB) (x1t 6 lawB)∧x1t 6 lawB=.seq (x1G 6 lawB) (x1t 7 lawB)∧x1t 7 lawB=.seq (x1G 7 lawB) (x1t 8 lawB)∧x1t 8 lawB=.seq (x1G 8 lawB) (x1t 9 lawB):=⟨rfl,rfl,rfl,rfl,rfl,rfl,rfl,rfl,rfl⟩
theorem xoz {en:Env} {e0v e2v:V} {r:Nat→Int} {K:Env→Heap→Prop} {Q:Ex→Env→Heap→Prop} (e0:en 0=e0v) (e1:en 1=.agg (regC r)) (e2:en 2=e2v)
  (hK:∀ en' t,en' 0=e0v→en' 2=e2v→en' 4=.rptr 0 0 0 0→K en' [.row t 1 0 (vrow 32 fun k=>.int .i64 (r k))]):WpC S0 0 (x1G 0 lawB) en [] (x58 K Q):=by
 simp only [lawB,x06,x1G,x1t]
 have hc:x3R 1 (regC r)=vrow 32 fun k=>.int .i64 (r k):=x92 32 fun k=>.int .i64 (r k)
 have ha:(regC r).all zm=true:=rfl
 have hl:(regC r).length=32:=rfl
 have h1:V.cells (.agg (regC r))=regC r:=rfl
 simp only [SQ,SQB,zm,AOp.opds,step,Opd.get,zk,bin,zzc,IntKind.signed,zi,zj,zl,zb,unary,ze,zd,za,zo,zr,zh,zf,zg,zp,Cp.isFull,isNil,zq,simprocAttr,SQX,V.cells,e1,h1,hc,ha,hl,x2l]
 exact hK _ _ (by simp [Env.put,Env.upd,e0]) (by simp [Env.put,Env.upd,e2]) (by simp [Env.put,Env.upd])
theorem xoy {en:Env} {h:Heap} {oc oc2:Cp} {e4v:V} {l1 l2:List (List V)} {z1 z2:Nat} {K:Env→Heap→Prop} {Q:Ex→Env→Heap→Prop} (e0:en 0=.slc oc z1 l1) (e2:en 2=.slc oc2 z2 l2) (e4:en 4=e4v) (h1:l1.length≤12) (h2:l2.length≤60)
  (hK:∀ en',en' 0=.slc oc z1 l1→en' 2=.slc oc2 z2 l2→en' 4=e4v→K en' h):WpC S0 0 (x1G 1 lawB) en h (x58 K Q):=by
 have n1:¬ (12:Int)<(l1.length:Int):=by omega
 have n2:¬ (60:Int)<(l2.length:Int):=by omega
 simp only [lawB,x06,x1G,x1t]
 simp only [SQ,SQB,zm,AOp.opds,step,Opd.get,zk,bin,zzc,IntKind.signed,zi,zj,zl,zb,unary,ze,zd,za,zo,zr,zh,zf,zg,zp,Cp.isFull,isNil,zq,simprocAttr,SQX,V.cells,e0,e2,n1,n2,x2l]
 exact hK _ (by simp [Env.put,Env.upd,e0]) (by simp [Env.put,Env.upd,e2]) (by simp [Env.put,Env.upd,e4])
theorem xox {en:Env} {h:Heap} {e0v e2v e4v:V} {K:Env→Heap→Prop} {Q:Ex→Env→Heap→Prop} (e0:en 0=e0v) (e2:en 2=e2v) (e4:en 4=e4v)
  (hK:∀ en' ti ev,zm ev=true→en' 0=e0v→en' 2=e2v→en' 4=e4v→en' 7=.ptr h.length 0→K en' (h++[.box ti [sNil,sNil,ev]])):WpC S0 0 (x1G 2 lawB) en h (x58 K Q):=by
 have s3:∀ t,x0y 0 (h++[Obj.box t [sNil,sNil,sNil]]) 3 (.ptr h.length 0) (.agg [sNil,sNil,.slc .lit 1 [[sci 0]]])=some (h++[.box t [sNil,sNil,.slc .lit 1 [[sci 0]]]]):=fun t=>xcC (Nat.zero_le _) rfl rfl rfl
 simp only [lawB,x06,x1G,x1t]
 simp only [SQ,SQB,zm,AOp.opds,step,Opd.get,zk,bin,zzc,IntKind.signed,zi,zj,zl,zb,unary,ze,zd,za,zo,zr,zh,zf,zg,zp,Cp.isFull,isNil,zq,simprocAttr,SQX,V.cells,x0g,x0J,zv,xd8,xd9,s3,x2l,List.length_cons,List.length_nil,List.set_cons_zero,List.set_cons_succ,List.all_cons,List.all_nil,Bool.and_true]
 exact hK _ _ _ rfl (by simp [Env.put,Env.upd,e0]) (by simp [Env.put,Env.upd,e2]) (by simp [Env.put,Env.upd,e4]) (by simp [Env.put,Env.upd])
theorem xow {en:Env} {h:Heap} {e0v e2v e7v:V} {b e:Nat} {t:TypeId} {r:Nat→Int} {K:Env→Heap→Prop} {Q:Ex→Env→Heap→Prop} (e0:en 0=e0v) (e2:en 2=e2v) (e4:en 4=.rptr b e 0 0) (e7:en 7=e7v) (hg:h[b]?=some (.row t 1 e (vrow 32 fun k=>.int .i64 (r k))))
  (hK:∀ en',en' 0=e0v→en' 2=e2v→en' 4=.rptr b e 0 0→en' 7=e7v→K en' (h.set b (.row t 1 e (vrow 32 fun k=>.int .i64 (if k=0 then 0 else r k))))):WpC S0 0 (x1G 4 lawB) en h (x58 K Q):=by
 have s1:x0y 0 h 1 (.rptr b e 0 0) (sci 0)=some (h.set b (.row t 1 e (vrow 32 fun k=>.int .i64 (if k=0 then 0 else r k)))):=by
  have:=x9U (base:=0) (x:=.int .i64 0) (i:=0) hg (by decide)
  rw [this]
  congr 3
 simp only [lawB,x06,x1G,x1t]
 simp only [SQ,SQB,zm,AOp.opds,step,Opd.get,zk,bin,zzc,IntKind.signed,zi,zj,zl,zb,unary,ze,zd,za,zo,zr,zh,zf,zg,zp,Cp.isFull,isNil,zq,simprocAttr,SQX,V.cells,e4,s1,x2l]
 exact hK _ (by simp [Env.put,Env.upd,e0]) (by simp [Env.put,Env.upd,e2]) (by simp [Env.put,Env.upd,e4]) (by simp [Env.put,Env.upd,e7])
theorem xi5 {li:List Ins} (hok:∀ x∈li,okI x) (hi64:∀ x∈li,I64 x.imm):Wait (x85 li)∧(∀ e∈x85 li,I64 e.val)∧∀ e∈x85 li,0≤e.ins.rd∧e.ins.rd<32:=by
 have key:∀ e∈x85 li,∃ x∈li,∃ pc,e=ent0 x pc:=fun e he=>by
  obtain ⟨k,hk,rfl⟩:=List.getElem_of_mem he
  rw [x4r] at hk
  exact ⟨li[k],List.getElem_mem hk,_,xbh li hk⟩
 refine ⟨fun e he=>?_,fun e he=>?_,fun e he=>?_⟩
 ·obtain ⟨x,hx,pc,rfl⟩:=key e he
  obtain ⟨h1,h2,h3⟩:=hok x hx
  exact ⟨⟨⟨rfl,h1,h2,hi64 x hx⟩,h3⟩,rfl,rfl⟩
 ·obtain ⟨x,hx,pc,rfl⟩:=key e he
  show I64 0
  unfold I64;omega
 ·obtain ⟨x,hx,pc,rfl⟩:=key e he
  obtain ⟨h1,h2,h3⟩:=hok x hx
  obtain ⟨q1,q2,_⟩:=xfF (f:=x0a x.op) rfl h3
  exact ⟨q1,q2⟩
theorem x9P {tE t:TypeId} {h:Heap} {b:Nat} {r:Nat→Int} (hg:h[b]?=some (.box t (regC r++[sNil]))):WinO tE h b none r []∧zl h none (.ptr b 32)=some sNil:=by
 refine ⟨⟨t,_,sNil,hg,fun k hk=>?_,rfl,.inl ⟨rfl,rfl,rfl⟩⟩,by rw [x2Y hg];rfl⟩
 rw [List.getElem?_append_left (by rw [x8t];simpa using hk),x8t,List.getElem?_map,List.getElem?_range hk]
 rfl
set_option maxHeartbeats 2000000 in
theorem windowOrders_law {oc oc2:Cp} (li:List Ins) (hi64:∀ x∈li,I64 x.imm) (r:Nat→Int) (hr:∀ k,I64 (r k)) (os:List Int):WpF S0 0 x4u [.slc oc 7 (li.map x7h),.agg (regC r),.slc oc2 1 (os.map fun n=>[sci n])] [] fun v h'=>v=.bool true∧h'=[]:=by
 refine zu (A:=x06) rfl rfl rfl rfl ?_
 by_cases hg:li.length≤12∧os.length≤60
 ·obtain ⟨hg1,hg2⟩:=hg
  obtain ⟨s0,s1,s2,s3,s4,s5,s6,s7,s8⟩:=xhN
  show WpC S0 0 (x1t 0 lawB) _ [] lawQ
  rw [s0]
  refine WpC.seq (xoz (r:=r) rfl rfl rfl fun en t e0 e2 e4=>?_)
  rw [s1]
  refine WpC.seq (xoy e0 e2 e4 (by simpa using hg1) (by simpa using hg2) fun en e0 e2 e4=>?_)
  rw [s2]
  refine WpC.seq (xox e0 e2 e4 fun en ti ev hev e0 e2 e4 e7=>?_)
  rw [s3]
  refine WpC.seq (xos (bi:=1) (r0:=0) e0 e2 e4 e7 hg1 rfl rfl (by decide) fun en h cv rc e0 e2 e4 e7 g0 g1 hc hrc hok=>?_)
  rw [s4]
  refine WpC.seq (xow e0 e2 e4 e7 g0 fun en e0 e2 e4 e7=>?_)
  rw [s5]
  generalize hr':(fun k=>if k=0 then 0 else r k)=r' at *
  have hh:∀ k,(if k=0 then (0:Int) else r k)=r' k:=fun k=>by rw [← hr']
  simp only [hh]
  have hri:∀ k,I64 (r' k):=fun k=>by
   rw [← hr']
   show I64 (if k=0 then 0 else r k)
   split
   ·unfold I64;omega
   ·exact hr k
  have hl1:=get_lt' g1
  have hl0:=get_lt' g0
  have hset:∀ o:Obj,(h.set 0 o).length=h.length:=fun o=>List.length_set
  refine WpC.seq (xni (r:=r') e0 e2 e7 e4 (List.getElem?_set_self hl0) fun en t1 t2 e0 e2 e7 e9 e10=>?_)
  generalize hH:h.set 0 (.row t 1 0 (vrow 32 fun k=>.int .i64 (r' k)))=H at *
  have hlen:H.length=h.length:=by rw [← hH];exact hset _
  have gim:H[1]?=some (.box ti [cv,sNil,ev]):=by rw [← hH,List.getElem?_set_ne (by decide)];exact g1
  have gw:(H++[.box t1 (regC r'++[sNil])]++[.box t2 (regC r'++[sNil])])[H.length]?=some (.box t1 (regC r'++[sNil])):=by
   rw [List.append_assoc,List.getElem?_append_right (Nat.le_refl _),Nat.sub_self];rfl
  have gx:(H++[.box t1 (regC r'++[sNil])]++[.box t2 (regC r'++[sNil])])[H.length+1]?=some (.box t2 (regC r'++[sNil])):=by
   rw [List.append_assoc,List.getElem?_append_right (by omega),Nat.add_sub_cancel_left];rfl
  have hco:x9f (H++[.box t1 (regC r'++[sNil])]++[.box t2 (regC r'++[sNil])]) cv (li.map encI) rc:=by
   rcases hc.o with q | ⟨rr,e,t',rfl,rfl,hq⟩
   ·exact .inl q
   ·refine .inr ⟨rr,e,t',rfl,rfl,?_⟩
    rw [List.append_assoc,List.getElem?_append_left (by rw [hlen];exact get_lt' hq),← hH,List.getElem?_set_ne (fun q=>hrc (by rw [q]))]
    exact hq
  have hrl:=hc.o.lt
  have f0:Full (H++[.box t1 (regC r'++[sNil])]++[.box t2 (regC r'++[sNil])]) 1 H.length (H.length+1) rc none none ti cv sNil ev (li.map encI) r' [] :=
   ⟨⟨(x9P gw).1,(x9P gx).1,by omega,by simp,by simp,by simp⟩,fun _=>(x9P (tE:=tyE) gw).2,fun _=>(x9P (tE:=tyE) gx).2,by rw [List.append_assoc,List.getElem?_append_left (by omega)];exact gim,hco,by omega,by omega,by simp,by simp,fun q=>by have:=hrl _ q;omega,fun q=>by have:=hrl _ q;omega,fun c _=>⟨by simp,by simp⟩⟩
  have lvl:zk (.slc oc 7 (li.map x7h))=some li.length:=by simp [zk]
  obtain ⟨w1,w2,w3⟩:=xi5 hok hi64
  rw [s6]
  refine WpC.seq (xoq e0 lvl e2 e7 e9 e10 rfl hev hg1 hok f0 fun en h3 ow ox e0 e2 e7 e9 e10 f=>?_)
  have hcv:=(f.code.code []).1
  rw [s7]
  refine WpC.seq (xop e0 e2 e7 e9 e10 hcv rfl hev w1 (by rw [x4r];exact hg1) hg2 f.im f.d3 f.two fun en h4 l e0 e7 e9 e10 im hm tw=>?_)
  rw [s8]
  refine WpC.seq (xoo e0 lvl e7 e9 e10 hcv rfl hev hri w1 w2 hm (x4r li) hg1 im f.d3 f.d4 tw fun en h5 e0 e9 e10 tw=>?_)
  refine xkW e0 lvl e9 e10 tw (by rw [x2o,x4r]) hg1 fun e he=>?_
  obtain ⟨x,m,n',p,rfl⟩:=xd7 hri _ e he
  obtain ⟨y1,y2⟩:=w3 x m
  exact ⟨(w1 x m).1,rfl,y1,y2⟩
 ·have sl1:zk (.slc oc 7 (li.map x7h))=some li.length:=by simp [zk]
  have sl2:zk (.slc oc2 1 (os.map fun n=>[sci n]))=some os.length:=by simp [zk]
  have hc:x3R 1 (regC r)=vrow 32 fun k=>.int .i64 (r k):=x92 32 fun k=>.int .i64 (r k)
  have ha:(regC r).all zm=true:=rfl
  have hl:(regC r).length=32:=rfl
  have h1:V.cells (.agg (regC r))=regC r:=rfl
  simp only [x06,oD,cD,τ,φ,ι]
  by_cases n1:(12:Int)<(li.length:Int)
  ·simp only [SQ,SQB,zm,AOp.opds,step,Opd.get,bin,zzc,IntKind.signed,zi,zj,zl,zb,unary,ze,zd,za,zo,zr,zh,zf,zg,zp,Cp.isFull,isNil,zq,simprocAttr,SQX,V.cells,h1,hc,ha,hl,sl1,sl2,n1,zn (x5x _),List.take_zero]
  ·have n2:(60:Int)<(os.length:Int):=by omega
   simp only [SQ,SQB,zm,AOp.opds,step,Opd.get,bin,zzc,IntKind.signed,zi,zj,zl,zb,unary,ze,zd,za,zo,zr,zh,zf,zg,zp,Cp.isFull,isNil,zq,simprocAttr,SQX,V.cells,h1,hc,ha,hl,sl1,sl2,n1,n2,zn (x5x _),List.take_zero]
def xjZ:V→Int
 | .sc (.int _ x)=>x
 | _=>0
theorem regs_of {vs:List V} (hl:vs.length=32) (hv:∀ v∈vs,∃ x,I64 x∧v=sci x):∃ r:Nat→Int,vs=regC r∧∀ k,I64 (r k):=by
 refine ⟨fun k=>xjZ (vs.getD k .undef),?_,fun k=>?_⟩
 ·rw [x8t]
  apply List.ext_getElem?
  intro k
  by_cases hk:k<vs.length
  ·obtain ⟨x,_,hx⟩:=hv _ (List.getElem_mem hk)
   rw [List.getElem?_map,List.getElem?_range (by omega),List.getElem?_eq_getElem hk]
   show some vs[k]=some (sci (xjZ (vs.getD k .undef)))
   rw [List.getD_eq_getElem?_getD,List.getElem?_eq_getElem hk,Option.getD_some,hx]
   rfl
  ·rw [List.getElem?_eq_none (by omega),List.getElem?_eq_none (by simp;omega)]
 ·show I64 (xjZ (vs.getD k .undef))
  by_cases hk:k<vs.length
  ·obtain ⟨x,h1,hx⟩:=hv _ (List.getElem_mem hk)
   rw [List.getD_eq_getElem?_getD,List.getElem?_eq_getElem hk,Option.getD_some,hx]
   exact h1
  ·rw [List.getD_eq_getElem?_getD,List.getElem?_eq_none (by omega)]
   show I64 0
   unfold I64;omega
end
section
section
variable {P:Program} {W:World} {r:Go.Reach} {base:Nat} {t:TypeId} {v:Value}
end
end
section
def ShpF (P:Program) (S:TypeId→List V→Prop):List Field→List V→Prop
 | [],vs=>vs=[]
 | f::fs,vs=>∃ a b,vs=a++b∧a.length=P.cellsOf f.type∧S f.type a∧ShpF P S fs b
def Shp (P:Program):Nat→TypeId→List V→Prop
 | 0,_,_=>False
 | n+1,t,vs=>match P.underlying t with
  | some (.int k)=>∃ m:Int,k.min≤m∧m≤k.max∧vs=[.sc (.int k m)]
  | some .bool=>∃ b,vs=[.sc (.bool b)]
  | some .string=>∃ s:ByteArray,s.size≤Go.maxLen∧vs=[.sc (.string s)]
  | some (.slice e)=>∃ rows:List (List V),vs=[.slc .any (P.cellsOf e) rows]∧rows.length≤Go.maxLen∧∀ r∈rows,Shp P n e r
  | some (.struct fs)=>ShpF P (Shp P n) fs.toList vs
  | some (.array m e)=>vs.length=m∧∀ v∈vs,Shp P n e [v]
  | _=>False
section
variable {P:Program} {n:Nat} {t:TypeId} {vs:List V}
theorem Shp.int {k:IntKind} (ht:P.underlying t=some (.int k)) (h:Shp P n t vs):∃ m:Int,k.min≤m∧m≤k.max∧vs=[.sc (.int k m)]:=by
 cases n with
 | zero=>exact h.elim
 | succ n=>simpa only [Shp,ht] using h
theorem Shp.bool (ht:P.underlying t=some .bool) (h:Shp P n t vs):∃ b,vs=[.sc (.bool b)]:=by
 cases n with
 | zero=>exact h.elim
 | succ n=>simpa only [Shp,ht] using h
theorem Shp.slc {e:TypeId} (ht:P.underlying t=some (.slice e)) (h:Shp P n t vs):∃ (rows:List (List V)) (k:Nat),n=k+1∧vs=[.slc .any (P.cellsOf e) rows]∧rows.length≤Go.maxLen∧∀ r∈rows,Shp P k e r:=by
 cases n with
 | zero=>exact h.elim
 | succ n =>
  simp only [Shp,ht] at h
  obtain ⟨rows,h1,h2,h3⟩:=h
  exact ⟨rows,n,rfl,h1,h2,h3⟩
theorem Shp.struct {fs:Array Field} (ht:P.underlying t=some (.struct fs)) (h:Shp P n t vs):∃ k,n=k+1∧ShpF P (Shp P k) fs.toList vs:=by
 cases n with
 | zero=>exact h.elim
 | succ n=>exact ⟨n,rfl,by simpa only [Shp,ht] using h⟩
theorem Shp.arr {m:Nat} {e:TypeId} (ht:P.underlying t=some (.array m e)) (h:Shp P n t vs):∃ k,n=k+1∧vs.length=m∧∀ v∈vs,Shp P k e [v]:=by
 cases n with
 | zero=>simp [Shp] at h
 | succ n=>exact ⟨n,rfl,by simpa only [Shp,ht] using h⟩
end
theorem xhh {α:Type} {f:α→List V} {Q:α→Prop}:∀ {rows:List (List V)},(∀ r∈rows,∃ a,r=f a∧Q a)→∃ l:List α,rows=l.map f∧∀ a∈l,Q a
 | [],_=>⟨[],rfl,by simp⟩
 | r::rows,h=>by
  obtain ⟨l,rfl,hl⟩:=xhh (fun r hr=>h r (List.mem_cons_of_mem _ hr))
  obtain ⟨a,rfl,ha⟩:=h r (List.mem_cons_self ..)
  exact ⟨a::l,rfl,fun b hb=>by
   rcases List.mem_cons.1 hb with rfl | hb
   ·exact ha
   ·exact hl b hb⟩
def x7k (P:Program) (tys:List TypeId):List Field→Nat→Option Nat
 | [],o=>some o
 | f::fs,o=>if f.offset=o∧tys.contains f.type=true then x7k P tys fs (o+P.cellsOf f.type) else none
def xmN (P:Program) (tys:List TypeId):Bool:=tys.all fun t=>match P.underlying t with
 | some (.int _) | some .bool | some .string=>P.cellsOf t==1
 | some (.slice e)=>P.cellsOf t==1&&tys.contains e&&decide (0<P.cellsOf e)
 | some (.struct fs)=>x7k P tys fs.toList 0==some (P.cellsOf t)
 | some (.array m e)=>P.cellsOf t==m&&(P.cellsOf e==1&&tys.contains e)
 | _=>false
section
variable {H:Type} {enc:TypeId×Value→H} {P:Program} {W:World} {base:Nat} {spare:Nat→Bool} {held:Bool} {tys:List TypeId}
theorem x9y {n:Nat} (ih:∀ t cs x,t∈tys→DataW.trod enc P W base spare held n t cs=some x→xix W (Shp P n t) (P.cellsOf t) cs) :
  ∀ (fs:List Field) (o:Nat) (cs:List Value),(∀ f∈fs,∃ y,DataW.trod enc P W base spare held n f.type ((cs.drop f.offset).take (P.cellsOf f.type))=some y)→x7k P tys fs o=some cs.length →
   ∃ vs,vs.length=cs.length-o∧o≤cs.length∧vs.all x1h=true∧ShpF P (Shp P n) fs vs∧RepL (x5l W) vs (cs.drop o)
 | [],o,cs,_,ho=>by
  simp only [x7k,Option.some.injEq] at ho
  subst ho
  exact ⟨[],by simp,Nat.le_refl _,rfl,rfl,by simp [RepL]⟩
 | f::fs,o,cs,hf,ho=>by
  simp only [x7k] at ho
  split at ho
  ·rename_i hc
   obtain ⟨rfl,hm⟩:=hc
   obtain ⟨y,hy⟩:=hf f (by simp)
   obtain ⟨b,b1,b2,b3,b4,b5⟩:=x9y ih fs _ cs (fun g hg=>hf g (by simp [hg])) ho
   obtain ⟨a,a1,a2,a3,a4⟩:=ih _ _ _ (by simpa using hm) hy
   refine ⟨a++b,by simp only [List.length_append];omega,by omega,by simp [a2,b3],⟨a,b,rfl,a1,a3,b4⟩,?_⟩
   have:=a4.append b5
   rwa [← List.drop_drop,List.take_append_drop] at this
  ·simp at ho
theorem xgH {Good:List V→Prop} {cs:List Value}:∀ (n:Nat),n≤cs.length→(∀ i,i<n→xix W Good 1 ((cs.drop i).take 1))→∃ vs:List V,vs.length=n∧vs.all x1h=true∧(∀ v∈vs,Good [v])∧RepL (x5l W) vs (cs.take n)
 | 0,_,_=>⟨[],rfl,rfl,by simp,by simp [RepL]⟩
 | n+1,hn,h=>by
  obtain ⟨vs,v1,v2,v3,v4⟩:=xgH n (by omega) fun i hi=>h i (by omega)
  obtain ⟨xs,x1,x2,x3,x4⟩:=h n (by omega)
  obtain ⟨x,rfl⟩:∃ x,xs=[x]:=by
   match xs,x1 with
   | [x],_=>exact ⟨x,rfl⟩
  refine ⟨vs++[x],by simp [v1],by rw [List.all_append,v2,x2];rfl,fun v hv=>?_,?_⟩
  ·rcases List.mem_append.1 hv with hv | hv
   ·exact v3 v hv
   ·obtain rfl:=List.mem_singleton.1 hv
    exact x3
  ·rw [List.take_add]
   exact v4.append x4
theorem x88 (hc:xmN P tys=true):∀ (fuel:Nat) (t:TypeId) (cs:List Value) (x:DataW H×List MemPlace),t∈tys→DataW.trod enc P W base spare held fuel t cs=some x→xix W (Shp P fuel t) (P.cellsOf t) cs
 | 0,t,cs,x,_,h=>by simp [DataW.trod] at h
 | n+1,t,cs,x,ht,h=>by
  have hk:=List.all_eq_true.1 hc t ht
  cases hu:P.underlying t with
  | none=>rw [hu] at hk;simp at hk
  | some d =>
   rw [hu] at hk
   cases d with
   | int k =>
    simp only [beq_iff_eq] at hk
    obtain ⟨m,h1,h2,h3⟩:=xeV hu h
    exact ⟨[.sc (.int k m)],hk.symm,rfl,by simp only [Shp,hu];exact ⟨m,h1,h2,rfl⟩,h3⟩
   | bool =>
    simp only [beq_iff_eq] at hk
    obtain ⟨b,rfl,_⟩:=DataW.trod_bool hu h
    exact ⟨[.sc (.bool b)],hk.symm,rfl,by simp only [Shp,hu];exact ⟨b,rfl⟩,by simp [RepL,RepV,Value.oneCell']⟩
   | string =>
    simp only [beq_iff_eq] at hk
    obtain ⟨s,h1,h2⟩:=xeT hu h
    exact ⟨[.sc (.string s)],hk.symm,rfl,by simp only [Shp,hu];exact ⟨s,h1,rfl⟩,h2⟩
   | slice e =>
    simp only [Bool.and_eq_true,beq_iff_eq,decide_eq_true_eq] at hk
    obtain ⟨⟨h1,h2⟩,h3⟩:=hk
    obtain ⟨rows,r1,r2,r3⟩:=xeU (Good:=Shp P n e) hu h3 (fun k cs y hkn hy _=>by
     obtain rfl:n=k:=by omega
     exact x88 hc n e cs y (by simpa using h2) hy) h
    exact ⟨[.slc .any (P.cellsOf e) rows],h1.symm,rfl,by simp only [Shp,hu];exact ⟨rows,rfl,r2,fun r hr=>(r3 r hr).2⟩,r1⟩
   | struct fs =>
    simp only [beq_iff_eq] at hk
    obtain ⟨xs,m,hm,_,hl,hx,hf⟩:=DataW.trod_struct hu h
    obtain rfl:n=m:=by omega
    obtain ⟨vs,v1,_,v2,v3,v4⟩:=x9y (x88 hc n) fs.toList 0 cs (fun f hf'=>by
     obtain ⟨i,hi,rfl⟩:=List.getElem_of_mem hf'
     have hi':i<fs.size:=by simpa using hi
     have:=hf i fs[i] (by simp [hi'])
     rw [List.getElem?_eq_getElem (by omega)] at this
     exact ⟨_,by simpa using this⟩) (by rw [hk,hl])
    exact ⟨vs,by omega,v2,by simp only [Shp,hu];exact v3,by simpa using v4⟩
   | array m e =>
    simp only [Bool.and_eq_true,beq_iff_eq] at hk
    obtain ⟨h1,h2,h3⟩:=hk
    obtain ⟨xs,k,hkn,_,hl,hx,hel⟩:=DataW.trod_array hu h
    obtain rfl:n=k:=by omega
    have hcl:cs.length=m:=by omega
    obtain ⟨vs,v1,v2,v3,v4⟩:=xgH (cs:=cs) (Good:=Shp P n e) m (by omega) fun i hi=>by
     have h4:=hel i hi
     rw [List.getElem?_eq_getElem (show i<xs.length by omega)] at h4
     have:=x88 hc n e _ _ (by simpa using h3) h4
     rw [h2,Nat.mul_one] at this
     exact this
    exact ⟨vs,by omega,v2,by simp only [Shp,hu];exact ⟨v1,v3⟩,by rw [List.take_of_length_le (by omega)] at v4;exact v4⟩
   | _=>simp at hk
def Each {α β:Type} (R:α→β→Prop):List α→List β→Prop
 | [],[]=>True
 | a::as,b::bs=>R a b∧Each R as bs
 | _,_=>False
def xna (P:Program) (t:TypeId) (v:V):Prop:=∃ n vs,Shp P n t vs∧match P.underlying t with
 | some (.struct _) | some (.array _ _)=>v=.agg vs
 | _=>vs=[v]
theorem xio (hc:xmN P tys=true) {r:Go.Reach} {ob:Nat}:∀ {ts:List TypeId} {vs:List Value} {ds:List (DataW H)} {ps:List MemPlace},(∀ t∈ts,t∈tys)→DataW.TrodAll enc P W base spare held ts vs ds ps →
  (∀ (j:Nat) t v,ts[j]?=some t→vs[j]?=some v→Value.okWide P W r ob t v)→∃ as:List V,RepL (x5l W) as vs∧Each (xna P) ts as∧ds.length=ts.length
 | [],vs,ds,ps,_,h,_=>by
  obtain ⟨rfl,rfl,rfl⟩:=ChangeShapes.trodAll_nil h
  exact ⟨[],by simp [RepL],trivial,rfl⟩
 | t::ts,vs,ds,ps,hin,h,hv=>by
  obtain ⟨v,vs',d,ds',p,q,rfl,rfl,rfl,h0,h1⟩:=ChangeShapes.trodAll_cons h
  obtain ⟨as,a1,a2,a3⟩:=xio hc (fun t ht=>hin t (by simp [ht])) h1 (fun j t' v' hj hv'=>hv (j+1) t' v' (by simpa using hj) (by simpa using hv'))
  obtain ⟨n,h0⟩:=h0
  obtain ⟨xs,x1,x2,x3,x4⟩:=x88 hc n t _ _ (hin t (by simp)) h0
  have k0:=hv 0 t v rfl rfl
  have hk:=List.all_eq_true.1 hc t (hin t (by simp))
  cases hu:P.underlying t with
  | none=>rw [hu] at hk;simp at hk
  | some e =>
   by_cases hst:∃ fs,e=.struct fs
   ·obtain ⟨fs,rfl⟩:=hst
    unfold Value.okWide at k0
    rw [hu] at k0
    obtain ⟨cs,rfl,_,_⟩:=k0
    refine ⟨.agg xs::as,?_,⟨⟨n,xs,x3,by rw [hu]⟩,a2⟩,by simp [a3]⟩
    simp only [RepL,RepV]
    exact ⟨_,_,rfl,⟨cs,rfl,x4⟩,a1⟩
   ·by_cases har:∃ m e',e=.array m e'
    ·obtain ⟨m,e',rfl⟩:=har
     unfold Value.okWide at k0
     rw [hu] at k0
     obtain ⟨cs,rfl,_,_⟩:=k0
     refine ⟨.agg xs::as,?_,⟨⟨n,xs,x3,by rw [hu]⟩,a2⟩,by simp [a3]⟩
     simp only [RepL,RepV]
     exact ⟨_,_,rfl,⟨cs,rfl,x4⟩,a1⟩
    rw [hu] at hk
    have h1c:P.cellsOf t=1:=by
     cases e<;>simp_all
    obtain ⟨y,rfl⟩:∃ y,xs=[y]:=by
     match xs,x1 with
     | [y],_=>exact ⟨y,rfl⟩
     | [],h=>simp at h;omega
     | _::_::_,h=>simp at h;omega
    have hcells:v.cells.toList=[v]:=by
     unfold Value.okWide Cell.okWide Cell.ok at k0
     cases e<;>simp only [hu] at k0<;>cases v<;>simp_all [Value.cells]
    rw [hcells] at x4
    refine ⟨y::as,?_,⟨⟨n,[y],x3,?_⟩,a2⟩,by simp [a3]⟩
    ·have:=RepL.append x4 a1
     simpa using this
    ·rw [hu]
     cases e<;>first | rfl | exact absurd ⟨_,rfl⟩ hst | exact absurd ⟨_,_,rfl⟩ har
end
end
end Go.Am
