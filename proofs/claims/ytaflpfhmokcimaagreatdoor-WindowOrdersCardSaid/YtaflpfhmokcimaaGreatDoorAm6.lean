/- The abstract machine and what is proved in it, part 6. -/
import Derived.Test.YtaflpfhmokcimaaGreatDoorAm5
import Derived.Deep.Slices
import Derived.ChangeSame
import Derived.Carry
import Derived.ProofKit
import Derived.WideKeyArgs
import Derived.OpenShut
import Derived.RowKit
import Derived.FnData
set_option linter.unusedVariables false
set_option linter.unusedSimpArgs false
namespace Go.Am
section
open Go.RowKit (Below)
def x5l (W:World):Tie:={ fz:=fun b o=>W.cell? ⟨b,o,none⟩,n:=0,bx:=fun _=>0,rw:=fun _=>none,b0:=W.heap.size }
theorem xf4 (W:World):Rel (x5l W) [] W where
 n:=rfl
 fz _ _ _ h:=h
 box b t cs e:=by simp at e
 row b t sz e rows eq:=by simp at eq
 mp b es e:=by simp at e
 low b k h:=by simp [Tie.real] at h
 inj b b' k h:=by simp [Tie.real] at h
 hb0:=Nat.le_refl _
 kp k h:=by simp [x5l] at h
section
variable {H:Type} {enc:TypeId×Value→H} {P:Program} {W:World} {base:Nat} {spare:Nat→Bool} {held:Bool}
def xix (W:World) (Good:List V→Prop) (n:Nat) (cs:List Value):Prop:=∃ vs:List V,vs.length=n∧vs.all x1h=true∧Good vs∧RepL (x5l W) vs cs
theorem xgA {a:Addr} {v:Value} (h:W.cell? a=some v):a.spot=none:=by
 unfold World.cell? at h
 split at h
 ·split at h
  ·simp at h
  ·rename_i hs
   simpa using hs
 ·simp at h
theorem x96 {a:Addr} (h:a.spot=none) (n:Nat):a.add n=⟨a.block,a.off+n,none⟩:=by
 obtain ⟨b,o,s⟩:=a
 simp only at h
 subst h
 exact x2g b o n
theorem x7x {b:Nat}:∀ {vs:List V} {o:Nat} {cs:List Value},RepL (x5l W) vs cs→(∀ (j:Nat) c,cs[j]?=some c→W.cell? ⟨b,o+j,none⟩=some c)→RepF (x5l W) b o vs
 | [],_,_,_,_=>by simp [RepF]
 | v::vs,o,cs,h,hc=>by
  simp only [RepL] at h
  obtain ⟨c,rest,rfl,h1,h2⟩:=h
  simp only [RepF]
  refine ⟨⟨c,by simpa [x5l] using hc 0 c rfl,h1⟩,x7x h2 fun j d hj=>?_⟩
  have:=hc (j+1) d (by simpa using hj)
  rwa [show o+(j+1)=o+1+j by omega] at this
theorem xgz {a:Addr} {n:Nat} {cs:List Value} (h:W.cells? base a n=some cs):cs.length=n∧∀ (j:Nat) c,cs[j]?=some c→W.cell? (a.add j)=some c:=by
 unfold World.cells? at h
 split at h
 ·have key:∀ (l:List Nat) (cs:List Value),(l.mapM fun i=>W.cell? (a.add i))=some cs→cs.length=l.length∧∀ (j i:Nat) c,l[j]?=some i→cs[j]?=some c→W.cell? (a.add i)=some c:=by
   intro l
   induction l with
   | nil=>intro cs h;simp at h;subst h;simp
   | cons i l ih =>
    intro cs h
    rw [List.mapM_cons] at h
    simp only [Option.bind_eq_bind,Option.bind_eq_some_iff,Option.pure_def,Option.some.injEq] at h
    obtain ⟨c,h1,r,h2,rfl⟩:=h
    obtain ⟨q1,q2⟩:=ih r h2
    refine ⟨by simp [q1],fun j i' c' hj hc=>?_⟩
    cases j with
    | zero=>simp at hj hc;subst hj;subst hc;exact h1
    | succ j=>exact q2 j i' c' (by simpa using hj) (by simpa using hc)
  obtain ⟨q1,q2⟩:=key _ _ h
  refine ⟨by simpa using q1,fun j c hj=>?_⟩
  have hlt:j<n:=by
   have:=(List.getElem?_eq_some_iff.1 hj).1
   simp at q1
   omega
  exact q2 j j c (by simp [hlt]) hj
 ·simp at h
theorem xeU {t e:TypeId} {fuel:Nat} {cs:List Value} {x:DataW H×List MemPlace} {Good:List V→Prop} (ht:P.underlying t=some (.slice e)) (h0:0<P.cellsOf e)
  (hel:∀ (n:Nat) (cs:List Value) (y:DataW H×List MemPlace),fuel=n+1→DataW.trod enc P W base spare held n e cs=some y→cs.length=P.cellsOf e→xix W Good (P.cellsOf e) cs)
  (h:DataW.trod enc P W base spare held fuel t cs=some x):∃ rows:List (List V),RepL (x5l W) [.slc .any (P.cellsOf e) rows] cs∧rows.length≤Go.maxLen∧∀ r∈rows,r.length=P.cellsOf e∧Good r:=by
 rcases DataW.trod_slice ht h with ⟨rfl,_⟩ | ⟨a,len,cap,x5u,rest,n,hfu,rfl,_,_,hl,hm,hlen,hi,_,_⟩
 ·refine ⟨[],?_,by simp,by simp⟩
  simp only [RepL,RepV]
  exact ⟨_,_,rfl,⟨none,0,rfl,by simp,by simp,by simp,0,0,by simp,by simp,by simp [x0T]⟩,rfl⟩
 ·have hex:∀ k,k≤len→∃ rows:List (List V),rows.length=k∧(rows.all fun l=>l.all x1h)=true∧(∀ r∈rows,r.length=P.cellsOf e∧Good r) ∧
    (rows≠[]→a.spot=none)∧∀ (i:Nat) r,rows[i]?=some r→RepF (x5l W) a.block (a.off+i*P.cellsOf e) r:=by
   intro k
   induction k with
   | zero=>intro _;exact ⟨[],rfl,by simp,by simp,by simp,by simp⟩
   | succ k ih =>
    intro hk
    obtain ⟨rows,q1,q2,q3,q4,q5⟩:=ih (by omega)
    have hik:=hi k (by omega)
    rw [List.getElem?_eq_getElem (by omega),Option.bind_eq_some_iff] at hik
    obtain ⟨cs',h1,h2⟩:=hik
    obtain ⟨hcl,hcc⟩:=xgz h1
    obtain ⟨vs,v1,v2,v3,v4⟩:=hel n cs' _ hfu h2 hcl
    have hsp:a.spot=none:=by
     by_cases hne:rows=[]
     ·have hk0:k=0:=by rw [← q1,hne];rfl
      subst hk0
      obtain ⟨c,hc⟩:∃ c,cs'[0]?=some c:=⟨cs'[0]'(by omega),List.getElem?_eq_getElem (by omega)⟩
      have:=xgA (hcc 0 c hc)
      simpa [Addr.add] using this
     ·exact q4 hne
    refine ⟨rows++[vs],by simp [q1],by simp [q2,v2],?_,fun _=>hsp,?_⟩
    ·intro r hr
     rcases List.mem_append.1 hr with hr | hr
     ·exact q3 r hr
     ·simp at hr;subst hr;exact ⟨v1,v3⟩
    ·intro i r hr
     rcases Nat.lt_or_ge i rows.length with hlt | hge
     ·rw [List.getElem?_append_left hlt] at hr
      exact q5 i r hr
     ·rw [List.getElem?_append_right hge] at hr
      have hik:i=k:=by
       have:=(List.getElem?_eq_some_iff.1 hr).1
       simp at this
       omega
      subst hik
      simp [q1] at hr
      subst hr
      refine x7x v4 fun j c hj=>?_
      have:=hcc j c hj
      rw [x96 hsp,x96 rfl] at this
      simpa using this
  obtain ⟨rows,q1,q2,q3,q4,q5⟩:=hex len (Nat.le_refl _)
  refine ⟨rows,?_,by omega,q3⟩
  simp only [RepL,RepV]
  refine ⟨_,_,rfl,⟨some a,cap,by rw [q1],by omega,by simp [Cp.isFull],q2,a.block,a.off,fun hne=>?_,fun e=>by simp at e,?_⟩,rfl⟩
  ·obtain ⟨b,o,s⟩:=a
   have:=q4 hne
   simp only at this
   subst this
   rfl
  ·exact x0T.of_get fun i r hr=>⟨(q3 r (List.mem_of_getElem? hr)).1,q5 i r hr⟩
theorem xeV {t:TypeId} {k:IntKind} {fuel:Nat} {cs:List Value} {x:DataW H×List MemPlace} (ht:P.underlying t=some (.int k)) (h:DataW.trod enc P W base spare held fuel t cs=some x) :
  ∃ n:Int,k.min≤n∧n≤k.max∧RepL (x5l W) [.sc (.int k n)] cs:=by
 obtain ⟨n,rfl,_,hw⟩:=DataW.trod_int ht h
 simp only [Lit.wf,Bool.and_eq_true,decide_eq_true_eq] at hw
 exact ⟨n,hw.1,hw.2,by simp [RepL,RepV,Value.oneCell']⟩
theorem xeT {t:TypeId} {fuel:Nat} {cs:List Value} {x:DataW H×List MemPlace} (ht:P.underlying t=some .string) (h:DataW.trod enc P W base spare held fuel t cs=some x) :
  ∃ s:ByteArray,s.size≤Go.maxLen∧RepL (x5l W) [.sc (.string s)] cs:=by
 obtain ⟨s,rfl,_,hw⟩:=DataW.trod_string ht h
 exact ⟨s,hw,by simp [RepL,RepV,Value.oneCell']⟩
end
end
section
open Go.ChangeShapes Go.WideShapes Go.ChangeAt Go.RowKit
section
variable {H:Type} {enc:TypeId×Value→H} {P:Program} {W W':World}
theorem x78 (hl:laidOutB P=true) (hb:Below W.heap.size W W'):∀ {ts:List TypeId} {vs:List Value} {ds:List (DataW H)} {ps:List MemPlace},(∀ t∈ts,P.readableRec t=true∧t<P.types.size) →
  DataW.TrodAll enc P W 0 (fun _=>true) true ts vs ds ps→(∀ x∈ps,x.block<W.heap.size)→∀ sp:Nat→Bool,(∀ p∈ps,sp p.block=true)→DataW.TrodAll enc P W' 0 sp true ts vs ds ps
 | [],_,_,_,_,h,_,sp,_=>by
  obtain ⟨rfl,rfl,rfl⟩:=trodAll_nil h
  exact trodAll_mk0
 | t::ts,_,_,_,hr,h,hlt,sp,hsp=>by
  obtain ⟨v,vs1,d,ds1,p,q,rfl,rfl,rfl,h1,h2⟩:=trodAll_cons h
  have ht:=hr t (by simp)
  have k1:DataW.Trod enc P W' 0 sp true t v d p:=WideElems.Trod_stays hl ht.1 ht.2 h1 (fun x hx=>hb.same (hlt x (by simp [hx]))) (fun x hx=>hsp x (by simp [hx]))
  exact trodAll_cons_mk k1 (x78 hl hb (fun u hu=>hr u (by simp [hu])) h2 (fun x hx=>hlt x (by simp [hx])) sp (fun x hx=>hsp x (by simp [hx])))
theorem law_post {f:Func} {s:ChangeSpec} {apart fresh handsOn again:Bool} {args:Array Value} {ds gs:List (DataW H)} {before:List MemPlace} {tb:TypeId} (hl:laidOutB P=true)
  (hpar:∀ t∈f.params.toList,P.readableRec t=true∧t<P.types.size) (hres:f.resultTypes = #[tb]) (htb:P.underlying tb=some .bool) (hvars:s.vars=[])
  (hspec:(s.fn H (ds++gs)).results=[.lit (.bool true)]∧(s.fn H (ds++gs)).args=ds∧(s.fn H (ds++gs)).vars=[])
  (hW:DataW.Whole enc P f.params.toList s.vars apart W args.toList ds gs before) (hb:Below W.heap.size W W'):s.post enc P f apart fresh handsOn again W args (.bool true) W':=by
 have hlt:=hW.lt
 have hW':=hW
 obtain ⟨p,q,hA,hV,rfl,hz,hn⟩:=hW
 rw [hvars] at hV
 obtain ⟨rfl,rfl⟩:=trodVars_none hV
 simp only [List.append_nil] at hW' hlt hz hn hspec
 have hargs:∀ sp:Nat→Bool,(∀ x∈p,sp x.block=true)→DataW.TrodAll enc P W' 0 sp true f.params.toList args.toList ds p:=x78 hl hb hpar hA hlt
 have hr:∀ (b:Nat) (sp:Nat→Bool) (hd:Bool),DataW.TrodAll enc P W' b sp hd f.resultTypes.toList ((Value.bool true).resultList f.resultTypes.size) [DataW.lit (.bool true)] []:=by
  intro b sp hd
  rw [hres]
  exact trodAll_cons_mk (shut_bool htb true) trodAll_mk0
 have hk:W.keptBut W' (·∈p):=hb.frame _
 refine ⟨ds,[],p,[],p,[],by simpa using hW',?_,?_,?_,World.keptBut_mono (fun x hx=>⟨hx,.inr (.inl hx)⟩) hk,fun _=>⟨?_,?_⟩⟩
 ·rw [List.append_nil,hspec.1];exact hr _ _ _
 ·rw [List.append_nil,hspec.2.1];exact hargs _ fun x hx=>by simpa using hlt x hx
 ·rw [List.append_nil,hspec.2.2,hvars];rfl
 ·exact ok_one hres rfl (okWide_bool_mk htb _)
 ·refine ⟨_,[],([]++p)++[],⟨[]++p,[],trodAll_append (hargs _ (fun _ _=>rfl)) (hr _ _ _),?_,rfl,?_,?_⟩,?_⟩
  ·rw [hvars];exact rfl
  ·intro b off hp
   simp only [List.nil_append,List.append_nil] at hp
   rw [hb.frozen (hlt _ hp)]
   exact hz b off hp
  ·intro ha
   simpa using hn ha
  ·intro x hx _
   simpa using hx
theorem law_calls {gl:Nat→Option (List V)} {S:Fns} {f:FuncId} {fn:Func} {args:Array Value} {vs:List V} (hcall:∀ n,CallOk P gl (x0j S.X S.F n)) (hgl:x0V (x5l W) gl) (hargs:RepL (x5l W) vs args.toList)
  (hf:P.funcs[f]?=some fn) (hname:(fn.name== "runtime.NumGoroutine")=false) (hbody:fn.body.isSome=true) (hw:WpF S 0 f vs [] fun v _=>v=.bool true) :
  Calls P f args W fun e W'=>e=.returned (.bool true)∧Below W.heap.size W W':=by
 obtain ⟨n,v,h',e,rfl⟩:=hw
 have h1:=(hcall n).runs 0 f vs [] _ _ e (Nat.zero_le _) (x5l W) W args hgl (xf4 W) hargs
 unfold x9M at h1
 have henter:(callFunc f args).run P W=.ok (.enter f args) W:=by
  have hname':¬ fn.name = "runtime.NumGoroutine":=by simpa using hname
  obtain ⟨b,hb⟩:=Option.isSome_iff_exists.1 hbody
  simp [callFunc,hf,hname',hb]
 rw [henter] at h1
 refine h1.mono fun ee W' hq=>?_
 cases ee with
 | returned rv =>
  obtain ⟨G',hreach,hv⟩:=hq
  exact ⟨by rw [hv.sc_inv],hreach.below.bel⟩
 | panicked c=>exact hq.elim
 | outgrown=>exact hq.elim
end
end
section
section
variable {P:Program} {W:World}
def x9K {H:Type}:DataW H→Option V
 | .lit (.bool b)=>some (.sc (.bool b))
 | .lit (.int k n)=>some (.sc (.int k n))
 | .lit (.string l)=>some (.sc (.string ⟨l.toArray⟩))
 | _=>none
def x98 {H:Type}:List (DataW H)→Option (List V)
 | []=>some []
 | d::r=>(x9K d).bind fun v=>(x98 r).map (v::·)
def xgP {H:Type}:DataW H→Option (List V)
 | .agg l=>x98 l
 | _=>none
theorem x97 {H:Type}:∀ {ds:List (DataW H)} {vs:List V},x98 ds=some vs→vs.length=ds.length∧∀ (i:Nat) d,ds[i]?=some d→∃ v,vs[i]?=some v∧x9K d=some v
 | [],vs,h=>by simp only [x98,Option.some.injEq] at h;subst h;simp
 | d::ds,vs,h=>by
  simp only [x98,Option.bind_eq_some_iff,Option.map_eq_some_iff] at h
  obtain ⟨v,h1,us,h2,rfl⟩:=h
  obtain ⟨q1,q2⟩:=x97 h2
  refine ⟨by simp [q1],fun i d' hi=>?_⟩
  cases i with
  | zero=>simp at hi;subst hi;exact ⟨v,by simp,h1⟩
  | succ i=>obtain ⟨u,h3,h4⟩:=q2 i d' (by simpa using hi);exact ⟨u,by simpa using h3,h4⟩
theorem xjS {H:Type} {enc:TypeId×Value→H} {base:Nat} {sp:Nat→Bool} {held:Bool} {fuel:Nat} {t:TypeId} {c:Value} {d:DataW H} {p:List MemPlace} {v:V} (h:DataW.trod enc P W base sp held fuel t [c]=some (d,p)) (hv:x9K d=some v) :
  x1h v=true∧RepV (x5l W) v c:=by
 have one:∀ (l:Lit),d=.lit l→(∃ b,l=.bool b∧c=.bool b)∨(∃ k n,l=.int k n∧c=.int k n)∨(∃ s:ByteArray,l=.string s.data.toList∧c=.string s)∨(∀ v,x9K d≠some v):=by
  rintro l rfl
  cases fuel with
  | zero=>simp [DataW.trod] at h
  | succ fuel =>
   unfold DataW.trod at h
   split at h
   all_goals try (exfalso;simp at h;done)
   ·rename_i b _ e
    simp only [Option.some.injEq,Prod.mk.injEq,DataW.lit.injEq] at h
    simp only [List.cons.injEq,and_true] at e
    exact .inl ⟨b,h.1.symm,e⟩
   ·rename_i k k' n _ e
    split at h
    ·rename_i hc
     simp only [Option.some.injEq,Prod.mk.injEq,DataW.lit.injEq] at h
     simp only [List.cons.injEq,and_true] at e
     exact .inr (.inl ⟨_,n,h.1.symm,by rw [e,hc.1]⟩)
    ·simp at h
   ·split at h
    ·simp only [Option.some.injEq,Prod.mk.injEq,DataW.lit.injEq] at h
     refine .inr (.inr (.inr fun v=>?_))
     rw [← h.1]
     simp [x9K]
    ·simp at h
   ·rename_i s _ e
    split at h
    ·simp only [Option.some.injEq,Prod.mk.injEq,DataW.lit.injEq] at h
     simp only [List.cons.injEq,and_true] at e
     exact .inr (.inr (.inl ⟨s,h.1.symm,e⟩))
    ·simp at h
   all_goals
    exfalso
    repeat' first
     | (simp at h;done)
     | split at h
     | (simp only [Option.bind_eq_some_iff,Option.map_eq_some_iff,Prod.mk.injEq] at h;obtain ⟨_,_,h⟩:=h)
     | skip
 unfold x9K at hv
 split at hv
 ·rename_i b
  injection hv with hv
  subst hv
  rcases one _ rfl with ⟨b',h1,rfl⟩ | ⟨k,n,h1,_⟩ | ⟨s,h1,_⟩ | h1
  ·injection h1 with h1;subst h1;simp [x1h,RepV,Value.oneCell']
  ·simp at h1
  ·simp at h1
  ·exact absurd rfl (h1 _)
 ·rename_i k n
  injection hv with hv
  subst hv
  rcases one _ rfl with ⟨b',h1,_⟩ | ⟨k',n',h1,rfl⟩ | ⟨s,h1,_⟩ | h1
  ·simp at h1
  ·injection h1 with h1 h2;subst h1;subst h2;simp [x1h,RepV,Value.oneCell']
  ·simp at h1
  ·exact absurd rfl (h1 _)
 ·rename_i l
  injection hv with hv
  subst hv
  rcases one _ rfl with ⟨b',h1,_⟩ | ⟨k',n',h1,_⟩ | ⟨s,h1,rfl⟩ | h1
  ·simp at h1
  ·simp at h1
  ·injection h1 with h1;subst h1;simp [x1h,RepV,Value.oneCell']
  ·exact absurd rfl (h1 _)
 ·simp at hv
theorem xjq {H:Type} {enc:TypeId×Value→H} {base:Nat} {sp:Nat→Bool} {held:Bool} {fuel:Nat} {t e:TypeId} {n:Nat} {cs:List Value} {d:DataW H} {p:List MemPlace} {vs:List V}
  (ht:P.underlying t=some (.array n e)) (hce:P.cellsOf e=1) (hct:P.cellsOf t=n) (h:DataW.trod enc P W base sp held fuel t cs=some (d,p)) (hv:xgP d=some vs) :
  vs.all x1h=true∧RepL (x5l W) vs cs:=by
 obtain ⟨xs,m,rfl,hx,hl,hn,hel⟩:=DataW.trod_array ht h
 simp only [Prod.mk.injEq] at hx
 obtain ⟨rfl,_⟩:=hx
 simp only [xgP] at hv
 obtain ⟨q1,q2⟩:=x97 hv
 have key:∀ i,i<n→∃ v c,vs[i]?=some v∧cs[i]?=some c∧x1h v=true∧RepV (x5l W) v c:=by
  intro i hi
  have h1:=hel i hi
  rw [List.getElem?_eq_getElem (by omega)] at h1
  have hc:(cs.drop (i*P.cellsOf e)).take (P.cellsOf e)=[cs[i]'(by omega)]:=by
   rw [hce,Nat.mul_one]
   have:i<cs.length:=by omega
   rw [List.drop_eq_getElem_cons this]
   rfl
  rw [hc] at h1
  obtain ⟨v,h2,h3⟩:=q2 i (xs[i]'(by omega)).1 (by simp [List.getElem?_eq_getElem (show i<xs.length by omega)])
  obtain ⟨h4,h5⟩:=xjS h1 h3
  exact ⟨v,_,h2,List.getElem?_eq_getElem (by omega),h4,h5⟩
 have hvl:vs.length=n:=by simp [q1,hn]
 have hcl:cs.length=n:=by omega
 clear hel q2 hv h
 refine ⟨?_,?_⟩
 ·rw [List.all_eq_true]
  intro v hv
  obtain ⟨i,hi⟩:=List.getElem?_of_mem hv
  obtain ⟨v',c,h1,_,h3,_⟩:=key i (by have:=(List.getElem?_eq_some_iff.1 hi).1;omega)
  rw [hi] at h1
  injection h1 with h1
  rw [h1]
  exact h3
 ·clear q1 hn hl ht hct
  induction n generalizing vs cs with
  | zero =>
   have h1:vs=[]:=List.eq_nil_of_length_eq_zero hvl
   have h2:cs=[]:=List.eq_nil_of_length_eq_zero hcl
   rw [h1,h2]
   simp [RepL]
  | succ n ih =>
   match vs,cs,hvl,hcl with
   | v::vs,c::cs,hvl,hcl =>
    simp only [RepL]
    obtain ⟨v',c',h1,h2,_,h4⟩:=key 0 (by omega)
    simp at h1 h2
    subst h1;subst h2
    refine ⟨c,cs,rfl,h4,ih (fun i hi=>?_) (by simpa using hvl) (by simpa using hcl)⟩
    obtain ⟨v',c',h5,h6,h7,h8⟩:=key (i+1) (by omega)
    exact ⟨v',c',by simpa using h5,by simpa using h6,h7,h8⟩
theorem xhO {laid:List (String×DataW Unit)} {name:String} {d:DataW Unit}:∀ {ps:List MemPlace},DataW.LaidVars P W laid ps→(name,d)∈laid →
  ∃ g t cs fuel p,P.globalNamed name=some g∧(P.globals[g]?).map (·.type)=some t∧W.var? P name=some cs∧DataW.trod (fun _=>()) P W 0 (fun _=>true) false fuel t cs.toList=some (d,p):=by
 induction laid with
 | nil=>intro ps _ h;simp at h
 | cons x r ih =>
  intro ps h hm
  obtain ⟨n,d'⟩:=x
  obtain ⟨g,t,cs,fuel,p,q,h1,h2,h3,h4,h5,_⟩:=h
  rcases List.mem_cons.1 hm with hm | hm
  ·injection hm with e1 e2
   subst e1;subst e2
   exact ⟨g,t,cs,fuel,p,h1,h2,h3,h4⟩
  ·exact ih h5 hm
theorem glob_tab {laid:List (String×DataW Unit)} {name:String} {d:DataW Unit} {g:Nat} {t e:TypeId} {n:Nat} {vs:List V} (h:laidMet P laid W) (hm:(name,d)∈laid) (hg:P.globalNamed name=some g) (hty:(P.globals[g]?).map (·.type)=some t)
  (ht:P.underlying t=some (.array n e)) (hce:P.cellsOf e=1) (hct:P.cellsOf t=n) (hv:xgP d=some vs):RepV (x5l W) (.eptr vs 0) (.pointer (some ⟨g,0,none⟩)):=by
 obtain ⟨ps,hl,_⟩:=h
 obtain ⟨g',t',cs,fuel,p,h1,h2,h3,h4⟩:=xhO hl hm
 obtain rfl:=Option.some.inj (hg.symm.trans h1)
 obtain rfl:=Option.some.inj (hty.symm.trans h2)
 obtain ⟨q1,q2⟩:=xjq ht hce hct h4 hv
 simp only [RepV]
 refine ⟨g,0,rfl,q1,x7x q2 fun j c hj=>?_⟩
 rw [World.var?_cell hg h3 (0+j),Nat.zero_add,← Array.getElem?_toList]
 exact hj
end
end
section
theorem xjy (en:Env) (t x:Nat) (v:V):(en.put (some t) v) x=if x=t then v else en x:=rfl
theorem xhm (en:Env) (v:V):en.put none v=en:=rfl
theorem xjY (a b:Int):(a==b)=decide (a=b):=by
 by_cases h:a=b
 ·simp [h]
 ·simp [h]
theorem xjX (a b:Int):(a != b) = !decide (a=b):=by
 by_cases h:a=b
 ·simp [h]
 ·simp [h]
theorem x08 {n:Int} (h0:-9223372036854775808≤n) (h1:n≤9223372036854775807):IntKind.wrap .i64 n=n:=by
 simp [IntKind.wrap,IntKind.signed,IntKind.bits]
 omega
section
variable {S:Fns} {base:Nat}
theorem xit {en:Env} {h:Heap} {Q:Ex→Env→Heap→Prop}:WpC S base .skip en h Q↔Q .normal en h:=by
 refine ⟨?_,WpC.skip⟩
 rintro ⟨n,ex,en',h',e,q⟩
 simp only [evC,Option.some.injEq,Prod.mk.injEq] at e
 obtain ⟨rfl,rfl,rfl⟩:=e
 exact q
theorem xkO {en:Env} {h:Heap} {Q:Ex→Env→Heap→Prop}:WpC S base .ret en h Q↔Q .ret en h:=by
 refine ⟨?_,WpC.ret⟩
 rintro ⟨n,ex,en',h',e,q⟩
 simp only [evC,Option.some.injEq,Prod.mk.injEq] at e
 obtain ⟨rfl,rfl,rfl⟩:=e
 exact q
theorem xiv {id:Nat} {en:Env} {h:Heap} {Q:Ex→Env→Heap→Prop}:WpC S base (.exit id) en h Q↔Q (.exit id) en h:=by
 refine ⟨?_,WpC.exit⟩
 rintro ⟨n,ex,en',h',e,q⟩
 simp only [evC,Option.some.injEq,Prod.mk.injEq] at e
 obtain ⟨rfl,rfl,rfl⟩:=e
 exact q
theorem xeG {ops:List AOper} {en:Env} {h:Heap} {Q:Ex→Env→Heap→Prop}:WpC S base (.region ops) en h Q↔WpO S base ops en h (Q .normal):=by
 refine ⟨?_,WpC.region⟩
 rintro ⟨n,ex,en',h',e,q⟩
 unfold evC at e
 split at e
 ·rename_i en1 h1 e1
  simp only [Option.some.injEq,Prod.mk.injEq] at e
  obtain ⟨rfl,rfl,rfl⟩:=e
  exact ⟨n,_,_,e1,q⟩
 ·simp at e
theorem xkN {a b:ACode} {en:Env} {h:Heap} {Q:Ex→Env→Heap→Prop}:WpC S base (.seq a b) en h Q↔WpC S base a en h (x58 (fun en h=>WpC S base b en h Q) Q):=by
 refine ⟨?_,WpC.seq⟩
 rintro ⟨n,ex,en',h',e,q⟩
 unfold evC at e
 split at e
 ·rename_i en1 h1 e1
  exact ⟨n,_,_,_,e1,n,_,_,_,e,q⟩
 ·rename_i hne
  refine ⟨n,_,_,_,e,?_⟩
  cases ex with
  | normal=>exact absurd e (hne en' h')
  | exit id=>exact q
  | ret=>exact q
theorem xgX {id:Nat} {c:ACode} {en:Env} {h:Heap} {Q:Ex→Env→Heap→Prop}:WpC S base (.block id c) en h Q↔WpC S base c en h (x5w id Q):=by
 refine ⟨?_,WpC.block⟩
 rintro ⟨n,ex,en',h',e,q⟩
 unfold evC at e
 split at e
 ·rename_i i en1 h1 e1
  refine ⟨n,_,_,_,e1,?_⟩
  split at e
  ·rename_i hi
   simp only [Option.some.injEq,Prod.mk.injEq] at e
   obtain ⟨rfl,rfl,rfl⟩:=e
   simpa [x5w,hi] using q
  ·rename_i hi
   simp only [Option.some.injEq,Prod.mk.injEq] at e
   obtain ⟨rfl,rfl,rfl⟩:=e
   simpa [x5w,hi] using q
 ·rename_i hne
  refine ⟨n,_,_,_,e,?_⟩
  cases ex with
  | exit i=>exact absurd e (hne i en' h')
  | normal=>exact q
  | ret=>exact q
theorem xgV {c:Opd} {a b:ACode} {en:Env} {h:Heap} {Q:Ex→Env→Heap→Prop}:WpC S base (.cond c a b) en h Q↔xil (c.get en) fun t=>if t=true then WpC S base a en h Q else WpC S base b en h Q:=by
 refine ⟨?_,xiw⟩
 rintro ⟨n,ex,en',h',e,q⟩
 unfold evC at e
 split at e
 ·rename_i t et
  rw [et,boolQ_bool]
  split at e
  ·rename_i ht
   rw [if_pos ht]
   exact ⟨n,_,_,_,e,q⟩
  ·rename_i ht
   rw [if_neg ht]
   exact ⟨n,_,_,_,e,q⟩
 ·simp at e
theorem x2l {K:Env→Heap→Prop} {Q:Ex→Env→Heap→Prop} {en:Env} {h:Heap}:x58 K Q .normal en h=K en h:=rfl
theorem x79 {K:Env→Heap→Prop} {Q:Ex→Env→Heap→Prop} {en:Env} {h:Heap}:x58 K Q .ret en h=Q .ret en h:=rfl
theorem xdw {K:Env→Heap→Prop} {Q:Ex→Env→Heap→Prop} {en:Env} {h:Heap} {i:Nat}:x58 K Q (.exit i) en h=Q (.exit i) en h:=rfl
theorem xao {id:Nat} {Q:Ex→Env→Heap→Prop} {en:Env} {h:Heap}:x5w id Q .normal en h=Q .normal en h:=rfl
theorem xey {id:Nat} {Q:Ex→Env→Heap→Prop} {en:Env} {h:Heap}:x5w id Q .ret en h=Q .ret en h:=rfl
theorem xck {id i:Nat} {Q:Ex→Env→Heap→Prop} {en:Env} {h:Heap}:x5w id Q (.exit i) en h=if i=id then Q .normal en h else Q (.exit i) en h:=by
 simp only [x5w]
 split<;>rfl
theorem xgU {f:FuncId} {args:List V} {h h0:Heap} {v0:V} (hw:WpF S base f args h fun v h'=>v=v0∧h'=h0) {Q:V→Heap→Prop}:WpF S base f args h Q↔Q v0 h0:=by
 constructor
 ·rintro ⟨n,v,h',e,q⟩
  obtain ⟨m,v2,h2,e2,rfl,rfl⟩:=hw
  have a:=x14 (X:=S.X) (F:=S.F) (Nat.le_max_left n m) _ _ _ _ _ e
  have b:=x14 (X:=S.X) (F:=S.F) (Nat.le_max_right n m) _ _ _ _ _ e2
  rw [a] at b
  injection b with b
  injection b with b1 b2
  subst b1;subst b2
  exact q
 ·intro q
  exact hw.mono fun v h' ⟨e1,e2⟩=>by subst e1;subst e2;exact q
theorem x1y {c:ACode} {Q:Ex→Env→Heap→Prop} {en:Env} {h:Heap} (I:Nat→Env→Heap→Prop) (k:Nat) (hi:I k en h) (hstep:∀ k en h,I k en h→WpC S base c en h (x58 (fun en' h'=>∃ j,j<k∧I j en' h') Q)) :
  WpC S base (.loop c) en h Q:=WpC.loopInv I hstep k en h hi
def Frz (h:Heap) (b:Nat) (v:V) (Q:V→Prop):Prop:=∃ n v',x1Z h b n v=some v'∧Q v'
def FrzL (h:Heap) (b:Nat) (v:List V) (Q:List V→Prop):Prop:=∃ n v',x1B h b n v=some v'∧Q v'
variable {h:Heap} {b:Nat}
theorem xn5 {v:Value} {Q:V→Prop} (q:Q (.sc v)):Frz h b (.sc v) Q:=⟨1,_,rfl,q⟩
theorem xkQ {ex:Cp} {sz:Nat} {rs:List (List V)} {Q:V→Prop} (q:Q (.slc ex sz rs)):Frz h b (.slc ex sz rs) Q:=⟨1,_,rfl,q⟩
theorem xiE {Q:List V→Prop} (q:Q []):FrzL h b [] Q:=⟨1,_,rfl,q⟩
theorem xh0 {v:V} {vs:List V} {Q:List V→Prop} (q:Frz h b v fun v'=>FrzL h b vs fun vs'=>Q (v'::vs')):FrzL h b (v::vs) Q:=by
 obtain ⟨n,v',e1,m,vs',e2,q⟩:=q
 refine ⟨max n m+1,v'::vs',?_,q⟩
 simp only [x1B,x2I (Nat.le_max_left n m) e1,x2L (Nat.le_max_right n m) e2,Option.bind_some,Option.map_some]
theorem xkP {vs:List V} {Q:V→Prop} (q:FrzL h b vs fun vs'=>Q (.tup vs')):Frz h b (.tup vs) Q:=by
 obtain ⟨n,vs',e,q⟩:=q
 exact ⟨n+1,_,by simp only [x1Z,e,Option.map_some],q⟩
theorem xkR {vs:List V} {Q:V→Prop} (q:FrzL h b vs fun vs'=>Q (.agg vs')):Frz h b (.agg vs) Q:=by
 obtain ⟨n,vs',e,q⟩:=q
 exact ⟨n+1,_,by simp only [x1Z,e,Option.map_some],q⟩
theorem x6Y {n m:Nat} {v a c:V} (e:x1Z h b n v=some a) (e2:x1Z h b m v=some c):a=c:=by
 have q1:=x2I (Nat.le_max_left n m) e
 have q2:=x2I (Nat.le_max_right n m) e2
 rw [q1] at q2
 exact Option.some.inj q2
theorem xb7 {n m:Nat} {v a c:List V} (e:x1B h b n v=some a) (e2:x1B h b m v=some c):a=c:=by
 have q1:=x2L (Nat.le_max_left n m) e
 have q2:=x2L (Nat.le_max_right n m) e2
 rw [q1] at q2
 exact Option.some.inj q2
theorem xgZ {v:Value} {Q:V→Prop}:Frz h b (.sc v) Q↔Q (.sc v):=⟨fun ⟨_,_,e,q⟩=>x6Y (m:=1) e rfl▸q,xn5⟩
theorem xiB {ex:Cp} {sz:Nat} {rs:List (List V)} {Q:V→Prop}:Frz h b (.slc ex sz rs) Q↔Q (.slc ex sz rs):=⟨fun ⟨_,_,e,q⟩=>x6Y (m:=1) e rfl▸q,xkQ⟩
theorem xbu {Q:List V→Prop}:FrzL h b [] Q↔Q []:=⟨fun ⟨_,_,e,q⟩=>xb7 (m:=1) e rfl▸q,xiE⟩
theorem x9L {v:V} {vs:List V} {Q:List V→Prop}:FrzL h b (v::vs) Q↔Frz h b v fun v'=>FrzL h b vs fun vs'=>Q (v'::vs'):=by
 refine ⟨?_,xh0⟩
 rintro ⟨n,r,e,q⟩
 cases n with
 | zero=>simp [x1B] at e
 | succ n =>
  simp only [x1B,Option.bind_eq_some_iff,Option.map_eq_some_iff] at e
  obtain ⟨a,e1,c,e2,rfl⟩:=e
  exact ⟨n,a,e1,n,c,e2,q⟩
theorem xiA {vs:List V} {Q:V→Prop}:Frz h b (.tup vs) Q↔FrzL h b vs fun vs'=>Q (.tup vs'):=by
 refine ⟨?_,xkP⟩
 rintro ⟨n,r,e,q⟩
 cases n with
 | zero=>simp [x1Z] at e
 | succ n =>
  simp only [x1Z,Option.map_eq_some_iff] at e
  obtain ⟨a,e1,rfl⟩:=e
  exact ⟨n,a,e1,q⟩
theorem xiD {vs:List V} {Q:V→Prop}:Frz h b (.agg vs) Q↔FrzL h b vs fun vs'=>Q (.agg vs'):=by
 refine ⟨?_,xkR⟩
 rintro ⟨n,r,e,q⟩
 cases n with
 | zero=>simp [x1Z] at e
 | succ n =>
  simp only [x1Z,Option.map_eq_some_iff] at e
  obtain ⟨a,e1,rfl⟩:=e
  exact ⟨n,a,e1,q⟩
def endP (rs:List ARes) (b:Nat) (Q:V→Heap→Prop) (ex:Ex) (en:Env) (h:Heap):Prop :=
 match ex with
 | .exit _=>False
 | _=>match ze en h rs with
  | some vs=>Frz h b (za vs) fun v=>Q v (h.take b)
  | none=>False
def endI (rs:List ARes) (Q:V→Heap→Prop) (ex:Ex) (en:Env) (h:Heap):Prop :=
 match ex with
 | .exit _=>False
 | _=>match ze en h rs with
  | some vs=>Q (za vs) h
  | none=>False
def resQ (o:Option (List V)) (Q:List V→Prop):Prop:=match o with | some vs=>Q vs | none=>False
theorem xfb {vs:List V} {Q:List V→Prop}:resQ (some vs) Q=Q vs:=rfl
theorem xi6 {rs:List ARes} {Q:V→Heap→Prop} {en:Env}:endP rs b Q .ret en h=resQ (ze en h rs) fun vs=>Frz h b (za vs) fun v=>Q v (h.take b):=rfl
theorem xcf {rs:List ARes} {Q:V→Heap→Prop} {en:Env}:endP rs b Q .normal en h=resQ (ze en h rs) fun vs=>Frz h b (za vs) fun v=>Q v (h.take b):=rfl
theorem xi7 {rs:List ARes} {Q:V→Heap→Prop} {en:Env}:endI rs Q .ret en h=resQ (ze en h rs) fun vs=>Q (za vs) h:=rfl
theorem xcg {rs:List ARes} {Q:V→Heap→Prop} {en:Env}:endI rs Q .normal en h=resQ (ze en h rs) fun vs=>Q (za vs) h:=rfl
theorem zu {f:FuncId} {A:AFunc} {args:List V} {Q:V→Heap→Prop} (hX:S.X f=none) (hF:S.F f=some A) (hp:A.pure=true) (hl:args.length=A.nparams)
  (hw:WpC S h.length A.body (fun t=>args.getD t .undef) h (endP A.results h.length Q)):WpF S base f args h Q:=by
 refine WpF.bodyPure hX hF hp hl (hw.mono ?_)
 intro ex en h' q
 unfold endP at q
 cases ex with
 | exit i=>exact q.elim
 | normal =>
  simp only at q
  refine ⟨by simp,?_⟩
  split at q
  ·rename_i vs e
   obtain ⟨n,v',e2,q⟩:=q
   exact ⟨vs,e,n,v',e2,q⟩
  ·exact q.elim
 | ret =>
  simp only at q
  refine ⟨by simp,?_⟩
  split at q
  ·rename_i vs e
   obtain ⟨n,v',e2,q⟩:=q
   exact ⟨vs,e,n,v',e2,q⟩
  ·exact q.elim
theorem zB {f:FuncId} {A:AFunc} {args:List V} {Q:V→Heap→Prop} (hX:S.X f=none) (hF:S.F f=some A) (hp:A.pure=false) (hl:args.length=A.nparams)
  (hw:WpC S base A.body (fun t=>args.getD t .undef) h (endI A.results Q)):WpF S base f args h Q:=by
 refine WpF.body hX hF hp hl (hw.mono ?_)
 intro ex en h' q
 unfold endI at q
 cases ex with
 | exit i=>exact q.elim
 | normal =>
  simp only at q
  refine ⟨by simp,?_⟩
  split at q
  ·rename_i vs e
   exact ⟨vs,e,q⟩
  ·exact q.elim
 | ret =>
  simp only at q
  refine ⟨by simp,?_⟩
  split at q
  ·rename_i vs e
   exact ⟨vs,e,q⟩
  ·exact q.elim
def opQ (S:Fns) (base:Nat) (x:Option (V×Heap)) (dst:Option Nat) (r:List AOper) (en:Env) (Q:Env→Heap→Prop):Prop :=
 match x with
 | some (v,h)=>WpO S base r (en.put dst v) h Q
 | none=>False
def x4x (S:Fns) (base:Nat) (g:V) (want:Bool) (dst:Option Nat) (op:AOp) (r:List AOper) (en:Env) (h:Heap) (Q:Env→Heap→Prop):Prop :=
 match gOk g want with
 | some true=>WpO S base (⟨dst,op,none,[]⟩::r) en h Q
 | some false=>WpO S base r (en.put dst (.tup [])) h Q
 | none=>False
def xik (S:Fns) (base:Nat) (t:Option (FuncId×List V)) (dst:Option Nat) (r:List AOper) (en:Env) (h:Heap) (Q:Env→Heap→Prop):Prop :=
 match t with
 | some (k,vs)=>WpF S base k vs h fun v h1=>WpO S base r (en.put dst v) h1 Q
 | none=>False
def x9S (S:Fns) (base:Nat) (b:ACode) (Q:Ex→Env→Heap→Prop) (ex:Ex) (en:Env) (h:Heap):Prop :=
 match ex with
 | .normal=>WpC S base b en h Q
 | ex=>Q ex en h
def x86 (S:Fns) (base:Nat) (c:V) (a b:ACode) (en:Env) (h:Heap) (Q:Ex→Env→Heap→Prop):Prop :=
 match c with
 | .sc (.bool t)=>if t=true then WpC S base a en h Q else WpC S base b en h Q
 | _=>False
section
variable {x:Option (V×Heap)} {dst:Option Nat} {r:List AOper} {en:Env} {Q:Env→Heap→Prop} {h:Heap} {v:V}
theorem xhs:opQ S base (some (v,h)) dst r en Q=WpO S base r (en.put dst v) h Q:=rfl
theorem xht:opQ S base none dst r en Q=False:=rfl
theorem xkL {op:AOp} (hn:(∀ f a,op≠.call f a)∧∀ f a t,op≠.callK f a t):WpO S base (⟨dst,op,none,[]⟩::r) en h Q↔opQ S base (step base en h op) dst r en Q:=by
 rw [xn3 hn]
 unfold okQ opQ
 rfl
theorem xfZ {op:AOp}:x4x S base (.sc (.bool true)) true dst op r en h Q=WpO S base (⟨dst,op,none,[]⟩::r) en h Q:=rfl
theorem xg3 {op:AOp}:x4x S base (.sc (.bool false)) false dst op r en h Q=WpO S base (⟨dst,op,none,[]⟩::r) en h Q:=rfl
theorem xg0 {op:AOp}:x4x S base (.sc (.bool true)) false dst op r en h Q=WpO S base r (en.put dst (.tup [])) h Q:=rfl
theorem xg2 {op:AOp}:x4x S base (.sc (.bool false)) true dst op r en h Q=WpO S base r (en.put dst (.tup [])) h Q:=rfl
theorem xg1 {op:AOp} {want:Bool}:x4x S base (.tup []) want dst op r en h Q=WpO S base r (en.put dst (.tup [])) h Q:=rfl
theorem xeF {op:AOp} {g:Nat} {want:Bool}:WpO S base (⟨dst,op,some (g,want),[]⟩::r) en h Q↔x4x S base (en g) want dst op r en h Q:=by
 rw [xgS]
 rfl
theorem xgT {f:Opd} {args:List Opd}:WpO S base (⟨dst,.call f args,none,[]⟩::r) en h Q↔xik S base (zr (f.get en) (zh en args)) dst r en h Q:=by
 rw [xis]
 unfold xkB xik
 rfl
theorem zn {k:FuncId} {vs:List V} {h0:Heap} {v0:V} (hw:WpF S base k vs h fun v h'=>v=v0∧h'=h0):xik S base (some (k,vs)) dst r en h Q↔WpO S base r (en.put dst v0) h0 Q:=xgU hw
end
section
variable {a b:ACode} {en:Env} {h:Heap} {Q:Ex→Env→Heap→Prop}
theorem xau:x9S S base b Q .normal en h=WpC S base b en h Q:=rfl
theorem xeW:x9S S base b Q .ret en h=Q .ret en h:=rfl
theorem xdx {i:Nat}:x9S S base b Q (.exit i) en h=Q (.exit i) en h:=rfl
theorem xiu:WpC S base (.seq a b) en h Q↔WpC S base a en h (x9S S base b Q):=xkN.trans (by
 have:x58 (fun en h=>WpC S base b en h Q) Q=x9S S base b Q:=by
  funext ex en h
  cases ex<;>rfl
 rw [this])
theorem xev:x86 S base (.sc (.bool true)) a b en h Q=WpC S base a en h Q:=rfl
theorem xch:x86 S base (.sc (.bool false)) a b en h Q=WpC S base b en h Q:=rfl
theorem xew {t:Bool}:x86 S base (.sc (.bool t)) a b en h Q=if t=true then WpC S base a en h Q else WpC S base b en h Q:=rfl
theorem xgW {c:Opd}:WpC S base (.cond c a b) en h Q↔x86 S base (c.get en) a b en h Q:=by
 rw [xgV]
 unfold xil x86
 rfl
end
end
section
variable {S:Fns} {base:Nat}
theorem xgQ {dst:Option Nat} {op:AOp} {t:Nat} {ts:List Nat} {r:List AOper} {en:Env} {h:Heap} {Q:Env→Heap→Prop}:WpO S base (⟨dst,op,none,t::ts⟩::r) en h Q↔if x5c en ⟨dst,op,none,t::ts⟩=true then WpO S base (⟨dst,op,none,[]⟩::r) en h Q else False:=by
 by_cases ho:x5c en ⟨dst,op,none,t::ts⟩=true
 ·rw [if_pos ho]
  refine ⟨?_,WpO.keep ho⟩
  rintro ⟨n,en',h',e,q⟩
  refine ⟨n,en',h',?_,q⟩
  rw [x0i] at e ⊢
  have hev:x1x (x0j S.X S.F n) base en h ⟨dst,op,none,t::ts⟩=x1x (x0j S.X S.F n) base en h ⟨dst,op,none,[]⟩:=by
   unfold x1x
   rw [ho]
   rfl
  have:x0M (x0j S.X S.F n) base ⟨dst,op,none,t::ts⟩ en h=x0M (x0j S.X S.F n) base ⟨dst,op,none,[]⟩ en h:=by
   simp only [x0M,hev]
  rw [← this]
  exact e
 ·rw [if_neg ho,iff_false]
  rintro ⟨n,en',h',e,q⟩
  rw [x0i] at e
  have:x0M (x0j S.X S.F n) base ⟨dst,op,none,t::ts⟩ en h=none:=by
   simp only [x0M,x1x,ho,Bool.false_eq_true,if_false]
  rw [this] at e
  simp at e
end
def x73 (v:V) (b:Nat):Bool:=x1F v != some b
def offV (v:V) (l:List Opd) (en:Env):Bool:=match x1F v with | some b=>l.all fun x=>x73 (x.get en) b | none=>false
theorem xgR {S:Fns} {base:Nat} {dst:Option Nat} {op:AOp} {t:Nat} {r:List AOper} {en:Env} {h:Heap} {Q:Env→Heap→Prop}:WpO S base (⟨dst,op,none,[t]⟩::r) en h Q↔if offV (en t) op.opds en=true then WpO S base (⟨dst,op,none,[]⟩::r) en h Q else False:=by
 rw [xgQ]
 have:x5c en ⟨dst,op,none,[t]⟩=offV (en t) op.opds en:=by
  simp only [x5c,List.all_cons,List.all_nil,Bool.and_true]
  rfl
 rw [this]
theorem xhy {b o:Nat} {x:Opd} {l:List Opd} {en:Env}:offV (.ptr b o) (x::l) en=(x73 (x.get en) b&&offV (.ptr b o) l en):=rfl
theorem xhz {b o:Nat} {en:Env}:offV (.ptr b o) [] en=true:=rfl
theorem xgE {b c o:Nat}:x73 (.ptr c o) b=(c != b):=rfl
theorem xim {b:Nat} {v:Value}:x73 (.sc v) b=true:=rfl
theorem xgD {b sz:Nat} {ex:Cp} {rs:List (List V)}:x73 (.slc ex sz rs) b=true:=rfl
theorem xez {b o:Nat} {cs:List V}:x73 (.eptr cs o) b=true:=rfl
theorem xgG {b:Nat} {cs:List V}:x73 (.agg cs) b=true:=rfl
theorem xgF {b c e off len:Nat}:x73 (.hsl c e off len) b=(c != b):=rfl
theorem xiC {h:Heap} {b:Nat} {t:TypeId} {v:Value} {Q:V→Prop}:Frz h b (.ifc t (.sc v)) Q↔Q (.ifc t (.sc v)):=⟨fun ⟨_,_,e,q⟩=>x6Y (m:=1) e rfl▸q,fun q=>⟨1,_,rfl,q⟩⟩
end
section
section
variable {S:Fns} {base:Nat}
end
theorem xg5 {v:Value}:x1h (.sc v)=true:=rfl
theorem xej {ex:Cp} {sz:Nat} {rs:List (List V)}:x1h (.slc ex sz rs)=true:=rfl
end
section
section
variable {S:Fns} {base:Nat}
theorem xkw {t:Bool} {a b:ACode} {en:Env} {h:Heap} {Q:Ex→Env→Heap→Prop}:x86 S base (.sc (.bool t)) a b en h Q↔(t=true→WpC S base a en h Q)∧(t=false→WpC S base b en h Q):=by
 cases t<;>simp [x86]
theorem xd4 {t:Bool} {w:Bool} {dst:Option Nat} {op:AOp} {r:List AOper} {en:Env} {h:Heap} {Q:Env→Heap→Prop}:x4x S base (.sc (.bool t)) w dst op r en h Q↔(t=w→WpO S base (⟨dst,op,none,[]⟩::r) en h Q)∧(t = !w→WpO S base r (en.put dst (.tup [])) h Q):=by
 cases t<;>cases w<;>simp [x4x,gOk]
theorem x0G {t:Bool} {a b:ACode} {en:Env} {h:Heap} {Q:Ex→Env→Heap→Prop} (h1:t=true→WpC S base a en h Q) (h2:t=false→WpC S base b en h Q):x86 S base (.sc (.bool t)) a b en h Q:=xkw.2 ⟨h1,h2⟩
theorem x0u {t:Bool} {dst:Option Nat} {op:AOp} {r:List AOper} {en:Env} {h:Heap} {Q:Env→Heap→Prop} (h1:t=true→WpO S base (⟨dst,op,none,[]⟩::r) en h Q) (h2:t=false→WpO S base r (en.put dst (.tup [])) h Q):x4x S base (.sc (.bool t)) true dst op r en h Q:=xd4.2 ⟨h1,h2⟩
theorem x0v {t:Bool} {dst:Option Nat} {op:AOp} {r:List AOper} {en:Env} {h:Heap} {Q:Env→Heap→Prop} (h1:t=false→WpO S base (⟨dst,op,none,[]⟩::r) en h Q) (h2:t=true→WpO S base r (en.put dst (.tup [])) h Q):x4x S base (.sc (.bool t)) false dst op r en h Q:=xd4.2 ⟨h1,h2⟩
end
end
section
theorem SQ:((((((∀ {S:Fns} {base:Nat} {en:Env} {h:Heap} {Q:Ex→Env→Heap→Prop},WpC S base ACode.skip en h Q↔Q Ex.normal en h)∧(∀ {S:Fns} {base:Nat} {en:Env} {h:Heap} {Q:Ex→Env→Heap→Prop},WpC S base ACode.ret en h Q↔Q Ex.ret en h)∧∀ {S:Fns} {base id:Nat} {en:Env} {h:Heap} {Q:Ex→Env→Heap→Prop},WpC S base (ACode.exit id) en h Q↔Q (Ex.exit id) en h)∧(∀ {S:Fns} {base:Nat} {ops:List AOper} {en:Env} {h:Heap} {Q:Ex→Env→Heap→Prop},WpC S base (ACode.region ops) en h Q↔WpO S base ops en h (Q Ex.normal))∧(∀ {S:Fns} {base:Nat} {a b:ACode} {en:Env} {h:Heap} {Q:Ex→Env→Heap→Prop},WpC S base (ACode.seq a b) en h Q↔WpC S base a en h (x9S S base b Q))∧∀ {S:Fns} {base id:Nat} {c:ACode} {en:Env} {h:Heap} {Q:Ex→Env→Heap→Prop},WpC S base (ACode.block id c) en h Q↔WpC S base c en h (x5w id Q))∧((∀ {S:Fns} {base:Nat} {a b:ACode} {en:Env} {h:Heap} {Q:Ex→Env→Heap→Prop} {c:Opd},WpC S base (ACode.cond c a b) en h Q↔x86 S base (Opd.get en c) a b en h Q)∧(∀ {S:Fns} {base:Nat} {b:ACode} {en:Env} {h:Heap} {Q:Ex→Env→Heap→Prop},x9S S base b Q Ex.normal en h=WpC S base b en h Q)∧∀ {S:Fns} {base:Nat} {b:ACode} {en:Env} {h:Heap} {Q:Ex→Env→Heap→Prop},x9S S base b Q Ex.ret en h=Q Ex.ret en h)∧((∀ {S:Fns} {base:Nat} {b:ACode} {en:Env} {h:Heap} {Q:Ex→Env→Heap→Prop} {i:Nat},x9S S base b Q (Ex.exit i) en h=Q (Ex.exit i) en h)∧∀ {K:Env→Heap→Prop} {Q:Ex→Env→Heap→Prop} {en:Env} {h:Heap},x58 K Q Ex.normal en h=K en h)∧(∀ {K:Env→Heap→Prop} {Q:Ex→Env→Heap→Prop} {en:Env} {h:Heap},x58 K Q Ex.ret en h=Q Ex.ret en h)∧∀ {K:Env→Heap→Prop} {Q:Ex→Env→Heap→Prop} {en:Env} {h:Heap} {i:Nat},x58 K Q (Ex.exit i) en h=Q (Ex.exit i) en h)∧(((∀ {S:Fns} {base:Nat} {a b:ACode} {en:Env} {h:Heap} {Q:Ex→Env→Heap→Prop},x86 S base (V.sc (Value.bool true)) a b en h Q=WpC S base a en h Q)∧(∀ {S:Fns} {base:Nat} {a b:ACode} {en:Env} {h:Heap} {Q:Ex→Env→Heap→Prop},x86 S base (V.sc (Value.bool false)) a b en h Q=WpC S base b en h Q)∧∀ {S:Fns} {base:Nat} {dst:Option Nat} {r:List AOper} {en:Env} {Q:Env→Heap→Prop} {h:Heap} {v:V},opQ S base (some (v,h)) dst r en Q=WpO S base r (Env.put en dst v) h Q)∧(∀ {S:Fns} {base:Nat} {dst:Option Nat} {r:List AOper} {en:Env} {Q:Env→Heap→Prop},opQ S base none dst r en Q=False)∧(∀ {S:Fns} {base:Nat} {dst:Option Nat} {r:List AOper} {en:Env} {Q:Env→Heap→Prop} {h:Heap} {op:AOp},x4x S base (V.sc (Value.bool true)) true dst op r en h Q=WpO S base ({ dst:=dst,op:=op,guard:=none,off:=[] }::r) en h Q)∧∀ {S:Fns} {base:Nat} {dst:Option Nat} {r:List AOper} {en:Env} {Q:Env→Heap→Prop} {h:Heap} {op:AOp},x4x S base (V.sc (Value.bool true)) false dst op r en h Q=WpO S base r (Env.put en dst (V.tup [])) h Q)∧((∀ {S:Fns} {base:Nat} {dst:Option Nat} {r:List AOper} {en:Env} {Q:Env→Heap→Prop} {h:Heap} {op:AOp},x4x S base (V.sc (Value.bool false)) true dst op r en h Q=WpO S base r (Env.put en dst (V.tup [])) h Q)∧(∀ {S:Fns} {base:Nat} {dst:Option Nat} {r:List AOper} {en:Env} {Q:Env→Heap→Prop} {h:Heap} {op:AOp},x4x S base (V.sc (Value.bool false)) false dst op r en h Q=WpO S base ({ dst:=dst,op:=op,guard:=none,off:=[] }::r) en h Q)∧∀ {S:Fns} {base:Nat} {dst:Option Nat} {r:List AOper} {en:Env} {Q:Env→Heap→Prop} {h:Heap} {op:AOp} {want:Bool},x4x S base (V.tup []) want dst op r en h Q=WpO S base r (Env.put en dst (V.tup [])) h Q)∧((∀ {id:Nat} {Q:Ex→Env→Heap→Prop} {en:Env} {h:Heap},x5w id Q Ex.normal en h=Q Ex.normal en h)∧∀ {id:Nat} {Q:Ex→Env→Heap→Prop} {en:Env} {h:Heap},x5w id Q Ex.ret en h=Q Ex.ret en h)∧(∀ {id i:Nat} {Q:Ex→Env→Heap→Prop} {en:Env} {h:Heap},x5w id Q (Ex.exit i) en h=if i=id then Q Ex.normal en h else Q (Ex.exit i) en h)∧∀ {h:Heap} {b:Nat} {rs:List ARes} {Q:V→Heap→Prop} {en:Env},endP rs b Q Ex.ret en h=resQ (ze en h rs) fun vs=>Frz h b (za vs) fun v=>Q v (List.take b h))∧((((∀ {h:Heap} {b:Nat} {rs:List ARes} {Q:V→Heap→Prop} {en:Env},endP rs b Q Ex.normal en h=resQ (ze en h rs) fun vs=>Frz h b (za vs) fun v=>Q v (List.take b h))∧(∀ {h:Heap} {rs:List ARes} {Q:V→Heap→Prop} {en:Env},endI rs Q Ex.ret en h=resQ (ze en h rs) fun vs=>Q (za vs) h)∧∀ {h:Heap} {rs:List ARes} {Q:V→Heap→Prop} {en:Env},endI rs Q Ex.normal en h=resQ (ze en h rs) fun vs=>Q (za vs) h)∧(∀ {vs:List V} {Q:List V→Prop},resQ (some vs) Q=Q vs)∧(∀ {h:Heap} {b:Nat} {v:Value} {Q:V→Prop},Frz h b (V.sc v) Q↔Q (V.sc v))∧∀ {h:Heap} {b:Nat} {ex:Cp} {sz:Nat} {rs:List (List V)} {Q:V→Prop},Frz h b (V.slc ex sz rs) Q↔Q (V.slc ex sz rs))∧((∀ {h:Heap} {b:Nat} {Q:List V→Prop},FrzL h b [] Q↔Q [])∧(∀ {h:Heap} {b:Nat} {v:V} {vs:List V} {Q:List V→Prop},FrzL h b (v::vs) Q↔Frz h b v fun v'=>FrzL h b vs fun vs'=>Q (v'::vs'))∧∀ {h:Heap} {b:Nat} {vs:List V} {Q:V→Prop},Frz h b (V.tup vs) Q↔FrzL h b vs fun vs'=>Q (V.tup vs'))∧((∀ {h:Heap} {b:Nat} {vs:List V} {Q:V→Prop},Frz h b (V.agg vs) Q↔FrzL h b vs fun vs'=>Q (V.agg vs'))∧∀ {h:Heap} {b:Nat} {t:TypeId} {v:Value} {Q:V→Prop},Frz h b (V.ifc t (V.sc v)) Q↔Q (V.ifc t (V.sc v)))∧(∀ {S:Fns} {base:Nat} {dst:Option Nat} {op:AOp} {t:Nat} {r:List AOper} {en:Env} {h:Heap} {Q:Env→Heap→Prop},WpO S base ({ dst:=dst,op:=op,guard:=none,off:=[t] }::r) en h Q↔if offV (en t) (AOp.opds op) en=true then WpO S base ({ dst:=dst,op:=op,guard:=none,off:=[] }::r) en h Q else False)∧∀ {b o:Nat} {x:Opd} {l:List Opd} {en:Env},offV (V.ptr b o) (x::l) en=(x73 (Opd.get en x) b&&offV (V.ptr b o) l en))∧(((∀ {b o:Nat} {en:Env},offV (V.ptr b o) [] en=true)∧(∀ {b c o:Nat},x73 (V.ptr c o) b=(c != b))∧∀ {b:Nat} {v:Value},x73 (V.sc v) b=true)∧(∀ {b sz:Nat} {ex:Cp} {rs:List (List V)},x73 (V.slc ex sz rs) b=true)∧(∀ {b o:Nat} {cs:List V},x73 (V.eptr cs o) b=true)∧∀ {b:Nat} {cs:List V},x73 (V.agg cs) b=true)∧((∀ {b c e off len:Nat},x73 (V.hsl c e off len) b=(c != b))∧(∀ {S:Fns} {base:Nat} {dst:Option Nat} {r:List AOper} {en:Env} {Q:Env→Heap→Prop} {h:Heap} {op:AOp},((∀ (f:Opd) (a:List Opd),op≠AOp.call f a)∧∀ (f:Opd) (a:List Opd) (t:List Nat),op≠AOp.callK f a t)→(WpO S base ({ dst:=dst,op:=op,guard:=none,off:=[] }::r) en h Q↔opQ S base (step base en h op) dst r en Q))∧∀ {S:Fns} {base:Nat} {en:Env} {h:Heap} {Q:Env→Heap→Prop},WpO S base [] en h Q↔Q en h)∧((∀ {S:Fns} {base:Nat} {dst:Option Nat} {r:List AOper} {en:Env} {Q:Env→Heap→Prop} {h:Heap} {f:Opd} {args:List Opd},WpO S base ({ dst:=dst,op:=AOp.call f args,guard:=none,off:=[] }::r) en h Q↔xik S base (zr (Opd.get en f) (zh en args)) dst r en h Q)∧∀ {S:Fns} {base:Nat} {dst:Option Nat} {r:List AOper} {en:Env} {Q:Env→Heap→Prop} {h:Heap} {op:AOp} {g:Nat} {want:Bool},WpO S base ({ dst:=dst,op:=op,guard:=some (g,want),off:=[] }::r) en h Q↔x4x S base (en g) want dst op r en h Q)∧(∀ (en:Env) (t x:Nat) (v:V),Env.put en (some t) v x=if x=t then v else en x)∧∀ (en:Env) (v:V),Env.put en none v=en)∧(((((∀ {α:Type} (a b:α),(a≠b) = ¬a=b)∧(¬False)=True∧(¬True)=False)∧(∀ (α:Type),(∀ (a:α),True)=True)∧(∀ {α:Type} {β:Type} (a:α) (f:α→β),Option.map f (some a)=some (f a))∧∀ {α:Type} {β:Type} (f:α→β),Option.map f none=none)∧((∀ {α:Type} {β:Type} (a:α) (f:α→Option β),Option.bind (some a) f=f a)∧(∀ {α:Type} {β:Type} (f:α→Option β),Option.bind none f=none)∧∀ {α:Type} {x:α} {xs:List α} {d:α},List.getD (x::xs) (0:Nat) d=x)∧((∀ {α:Type} {x:α} {xs:List α} {n:Nat} {d:α},List.getD (x::xs) (n+(1:Nat)) d=List.getD xs n d)∧∀ {α:Type} (as:List α),[]++as=as)∧(∀ {α:Type} (as:List α),as++[]=as)∧∀ {α:Type} {a:α} {as bs:List α},a::as++bs=a::(as++bs))∧(((false=true)=False∧(true=false)=False∧∀ (b:Bool),((!b)=true)=(b=false))∧(!true)=false∧(!false)=true∧∀ {α:Type} {l:List α},List.take (List.length l) l=l)∧((∀ (p:Prop),(p∧True)=p)∧(∀ (p:Prop),(True∧p)=p)∧∀ {n m:Nat},(↑n:Int)<(↑m:Int)↔n<m)∧((∀ {m n:Nat},(↑m:Int)≤(↑n:Int)↔m≤n)∧∀ (n:Nat),(0:Int)≤(↑n:Int))∧(∀ (n:Nat),Int.toNat (↑n:Int)=n)∧∀ {α:Type} [inst:LE α] {x y:α},x ≥ y↔y≤x)∧((((∀ {α:Type} [inst:LT α] {x y:α},x > y↔y<x)∧(∀ {α:Type} {x:Decidable True} (t e:α),(if True then t else e)=t)∧∀ {α:Type} {x:Decidable False} (t e:α),(if False then t else e)=e)∧(∀ {α:Type} {β:Type} {as:List α} (f:α→β),List.length (List.map f as)=List.length as)∧(∀ (h:Decidable True),decide True=true)∧∀ (h:Decidable False),decide False=false)∧((∀ (a b:Int),(a==b)=decide (a=b))∧(∀ (a b:Int),(a != b) = !decide (a=b))∧∀ {m n:Nat},(↑m:Int)=(↑n:Int)↔m=n)∧((∀ (n:Nat),(0:Nat)≤n)∧∀ (n:Nat),n≤n)∧(∀ (b:Bool),(b||true)=true)∧∀ {α:Type} [inst:BEq α] [ReflBEq α] (a:α),(a==a)=true)∧(((∀ {α:Type} {a b:α},Option.getD (some a) b=a)∧(∀ {α:Type} {a:α},Option.getD none a=a)∧∀ {α:Type} {l:List α},List.drop (0:Nat) l=l)∧((∀ (n:Nat),n-(0:Nat)=n)∧∀ (p:Prop),(p∧p)=p)∧(∀ (p:Prop),(p∨True)=True)∧∀ (p:Prop),(True∨p)=True)∧((∀ (p:Prop),(p∨p)=p)∧(∀ (p:Prop),(False∨p)=p)∧∀ (p:Prop),(p∨False)=p)∧((∀ (p:Prop),(p∧False)=False)∧∀ (p:Prop),(False∧p)=False)∧(∀ (n:Nat),n+(0:Nat)=n)∧∀ (n:Nat),(0:Nat)+n=n :=
 (And.intro (And.intro (And.intro (And.intro (And.intro (And.intro @xit (And.intro @xkO @xiv)) (And.intro @xeG (And.intro @xiu @xgX))) (And.intro (And.intro @xgW (And.intro @xau @xeW)) (And.intro (And.intro @xdx @x2l) (And.intro @x79 @xdw)))) (And.intro (And.intro (And.intro @xev (And.intro @xch @xhs)) (And.intro @xht (And.intro @xfZ @xg0))) (And.intro (And.intro @xg2 (And.intro @xg3 @xg1)) (And.intro (And.intro @xao @xey) (And.intro @xck @xi6))))) (And.intro (And.intro (And.intro (And.intro @xcf (And.intro @xi7 @xcg)) (And.intro @xfb (And.intro @xgZ @xiB))) (And.intro (And.intro @xbu (And.intro @x9L @xiA)) (And.intro (And.intro @xiD @xiC) (And.intro @xgR @xhy)))) (And.intro (And.intro (And.intro @xhz (And.intro @xgE @xim)) (And.intro @xgD (And.intro @xez @xgG))) (And.intro (And.intro @xgF (And.intro @xkL @xkM)) (And.intro (And.intro @xgT @xeF) (And.intro @xjy @xhm)))))) (And.intro (And.intro (And.intro (And.intro (And.intro @ne_eq (And.intro @not_false_eq_true @not_true_eq_false)) (And.intro @implies_true (And.intro @Option.map_some @Option.map_none))) (And.intro (And.intro @Option.bind_some (And.intro @Option.bind_none @List.getD_cons_zero)) (And.intro (And.intro @List.getD_cons_succ @List.nil_append) (And.intro @List.append_nil @List.cons_append)))) (And.intro (And.intro (And.intro @Bool.false_eq_true (And.intro @Bool.true_eq_false @Bool.not_eq_true')) (And.intro @Bool.not_true (And.intro @Bool.not_false @List.take_length))) (And.intro (And.intro @and_true (And.intro @true_and @Int.ofNat_lt)) (And.intro (And.intro @Int.ofNat_le @Int.natCast_nonneg) (And.intro @Int.toNat_natCast @ge_iff_le))))) (And.intro (And.intro (And.intro (And.intro @gt_iff_lt (And.intro @if_true @if_false)) (And.intro @List.length_map (And.intro @decide_true @decide_false))) (And.intro (And.intro @xjY (And.intro @xjX @Int.natCast_inj)) (And.intro (And.intro @Nat.zero_le @Nat.le_refl) (And.intro @Bool.or_true @beq_self_eq_true)))) (And.intro (And.intro (And.intro @Option.getD_some (And.intro @Option.getD_none @List.drop_zero)) (And.intro (And.intro @Nat.sub_zero @and_self) (And.intro @or_true @true_or))) (And.intro (And.intro @or_self (And.intro @false_or @or_false)) (And.intro (And.intro @and_false @false_and) (And.intro @Nat.add_zero @Nat.zero_add)))))))
theorem SQX:(((∀ {α:Type} {a:α} {l:List α} {f:α→Bool},List.all (a::l) f=(f a&&List.all l f))∧(∀ {α:Type} {f:α→Bool},List.all [] f=true)∧∀ {v:Value},x1h (V.sc v)=true)∧(∀ {ex:Cp} {sz:Nat} {rs:List (List V)},x1h (V.slc ex sz rs)=true)∧(∀ {α:Type} {p:α→Bool},Option.all p none=true)∧∀ {α:Type} {p:α→Bool} {x:α},Option.all p (some x)=p x)∧((∀ (b:Bool),(b&&true)=b)∧(∀ (b:Bool),(true&&b)=b)∧∀ {α:Type} {a:α} {l:List α},(a::l)[(0:Nat)]?=some a)∧(∀ {α:Type} {a:α} {i:Nat} {l:List α},(a::l)[i+(1:Nat)]?=l[i]?)∧(∀ {α:Type} {a:α} {as:List α},List.length (a::as)=List.length as+(1:Nat))∧∀ {α:Type},List.length ([]:List α)=(0:Nat) :=
 (And.intro (And.intro (And.intro @List.all_cons (And.intro @List.all_nil @xg5)) (And.intro @xej (And.intro @Option.all_none @Option.all_some))) (And.intro (And.intro @Bool.and_true (And.intro @Bool.true_and @List.getElem?_cons_zero)) (And.intro @List.getElem?_cons_succ (And.intro @List.length_cons @List.length_nil))))
theorem SQB:(((∀ {S:Fns} {base:Nat} {a b:ACode} {en:Env} {h:Heap} {Q:Ex→Env→Heap→Prop} {t:Bool},x86 S base (V.sc (Value.bool t)) a b en h Q=if t=true then WpC S base a en h Q else WpC S base b en h Q)∧∀ {p:Prop} [inst:Decidable p],(decide p=true)=p)∧(∀ {p:Prop} {x:Decidable p},decide p=false↔¬p)∧∀ {α:Type} [inst:BEq α] [LawfulBEq α] {a b:α},(a != b)=true↔a≠b)∧((∀ {α:Type} [inst:BEq α] [LawfulBEq α] {a b:α},(a==b)=true↔a=b)∧∀ (a b:Bool),((a&&b)=true)=(a=true∧b=true))∧(∀ {p:Prop} [Decidable p],¬¬p↔p)∧∀ {p:Prop} [g:Decidable p] [h:Decidable ¬p],(decide ¬p) = !decide p :=
 (And.intro (And.intro (And.intro @xew @decide_eq_true_eq) (And.intro @decide_eq_false_iff_not @bne_iff_ne)) (And.intro (And.intro @beq_iff_eq @Bool.and_eq_true) (And.intro @Decidable.not_not @decide_not)))
end
section

end
section
def F (w a n:Nat):Nat:=w/2 ^ a%2 ^ n
def S (n v:Nat):Int:=if v%2 ^ n<2 ^ (n-1) then (v%2 ^ n:Nat) else ((v%2 ^ n:Nat):Int)-2 ^ n
theorem F_lt (w a n:Nat):F w a n<2 ^ n:=Nat.mod_lt _ (Nat.two_pow_pos n)
theorem xn6 (w a n:Nat):F w a (n+1)=F w a n+2 ^ n*(w/2 ^ (a+n)%2):=by
 unfold F
 rw [Nat.mod_pow_succ,Nat.div_div_eq_div_mul,← Nat.pow_add]
theorem x4z {n:Int} (h0:0≤n) (h1:n<4294967296):IntKind.u32.wrap n=n:=by
 simp only [IntKind.wrap,IntKind.bits,IntKind.signed]
 simp
 omega
theorem x4m {n:Int} (h0:0≤n) (h1:n<18446744073709551616):IntKind.u64.wrap n=n:=by
 simp only [IntKind.wrap,IntKind.bits,IntKind.signed]
 simp
 omega
theorem x5j (n:Nat):IntKind.u32.wrap (n:Int)=((n%4294967296:Nat):Int):=by
 simp only [IntKind.wrap,IntKind.bits,IntKind.signed]
 simp
theorem xeL (n:Nat):IntKind.u64.wrap (n:Int)=((n%18446744073709551616:Nat):Int):=by
 simp only [IntKind.wrap,IntKind.bits,IntKind.signed]
 simp
theorem x6R {a:Nat}:(BitVec.ofInt IntKind.u32.bits (a:Int)).toNat=a%4294967296:=by
 simp [IntKind.bits]
theorem xgL {a b:Nat} (ha:a<4294967296) (hb:b<4294967296):IntKind.u32.wrap (BitVec.ofInt IntKind.u32.bits (a:Int) &&& BitVec.ofInt IntKind.u32.bits (b:Int)).toNat=((a &&& b:Nat):Int):=by
 rw [BitVec.toNat_and,x6R,x6R,Nat.mod_eq_of_lt ha,Nat.mod_eq_of_lt hb,x5j,Nat.mod_eq_of_lt (Nat.lt_of_le_of_lt Nat.and_le_left ha)]
theorem xaH {a b:Nat} (ha:a<2 ^ 32) (hb:b<2 ^ 32):IntKind.u32.wrap (BitVec.ofInt IntKind.u32.bits (a:Int) ||| BitVec.ofInt IntKind.u32.bits (b:Int)).toNat=((a ||| b:Nat):Int):=by
 rw [BitVec.toNat_or,x6R,x6R,Nat.mod_eq_of_lt ha,Nat.mod_eq_of_lt hb,x5j,Nat.mod_eq_of_lt (Nat.or_lt_two_pow ha hb)]
theorem xfs {a:Nat}:(BitVec.ofInt IntKind.i64.bits (a:Int)).toNat=a%18446744073709551616:=by
 simp [IntKind.bits]
theorem xla {a b:Nat} (ha:a<2 ^ 62) (hb:b<2 ^ 62):IntKind.i64.wrap (BitVec.ofInt IntKind.i64.bits (a:Int) ||| BitVec.ofInt IntKind.i64.bits (b:Int)).toNat=((a ||| b:Nat):Int):=by
 have:=Nat.or_lt_two_pow ha hb
 rw [BitVec.toNat_or,xfs,xfs,Nat.mod_eq_of_lt (by omega),Nat.mod_eq_of_lt (by omega),x08 (by omega) (by omega)]
theorem xhI (w a n:Nat):(w/2 ^ a) &&& (2 ^ n-1)=F w a n:=Nat.and_two_pow_sub_one_eq_mod _ _
theorem x6Z (w a:Nat):(w:Int).fdiv (2 ^ a)=((w/2 ^ a:Nat):Int):=by
 rw [Int.fdiv_eq_ediv_of_nonneg _ (by have:=Int.pow_pos (n:=2) (m:=a) (by decide);omega)]
 simp
theorem xgO {a b:Nat} (h:a &&& b=0):a+b=a ||| b:=by
 have hl:∀ n:Nat,n<2 ^ n:=fun n=>Nat.lt_two_pow_self
 have:=BitVec.add_eq_or_of_and_eq_zero (BitVec.ofNat (a+b+1) a) (BitVec.ofNat (a+b+1) b) (by
  apply BitVec.eq_of_toNat_eq
  have h1:=hl (a+b+1)
  rw [BitVec.toNat_and,BitVec.toNat_ofNat,BitVec.toNat_ofNat,Nat.mod_eq_of_lt (by omega),Nat.mod_eq_of_lt (by omega),h];rfl)
 have h2:=congrArg BitVec.toNat this
 have h1:=hl (a+b+1)
 rw [BitVec.toNat_add,BitVec.toNat_or,BitVec.toNat_ofNat,BitVec.toNat_ofNat,Nat.mod_eq_of_lt (by omega:a<_),Nat.mod_eq_of_lt (by omega:b<_),Nat.mod_eq_of_lt (by omega)] at h2
 exact h2
theorem xl9 {a b ma mb:Nat} (ha:a &&& ma=a) (hb:b &&& mb=b) (h:ma &&& mb=0):a ||| b=a+b:=by
 have h0:a &&& b=0:=by
  rw [← ha,← hb,Nat.and_assoc,← Nat.and_assoc ma b mb,Nat.and_comm ma b,Nat.and_assoc b,h];simp
 exact (xgO h0).symm
theorem xoG (w a n:Nat) (b:Nat):(F w a n*2 ^ b) &&& ((2 ^ n-1)*2 ^ b)=F w a n*2 ^ b:=by
 apply Nat.eq_of_testBit_eq
 intro i
 rw [Nat.testBit_and,Nat.testBit_mul_two_pow,Nat.testBit_mul_two_pow,Nat.testBit_two_pow_sub_one,F,Nat.testBit_mod_two_pow]
 by_cases h1:b≤i<;>by_cases h2:i-b<n<;>simp [h1,h2]
theorem xl4 (w a n v:Nat) (h:a+n≤32) (hw:w<2 ^ 32):((w &&& (2 ^ 32-1-(2 ^ n-1)*2 ^ a)) ||| (v*2 ^ a &&& ((2 ^ n-1)*2 ^ a)))=w-F w a n*2 ^ a+v%2 ^ n*2 ^ a:=by
 have e1:w &&& ((2 ^ n-1)*2 ^ a)=F w a n*2 ^ a:=by
  apply Nat.eq_of_testBit_eq
  intro i
  rw [Nat.testBit_and,Nat.testBit_mul_two_pow,Nat.testBit_mul_two_pow,Nat.testBit_two_pow_sub_one,F,Nat.testBit_mod_two_pow,Nat.testBit_div_two_pow]
  by_cases h1:a≤i
  ·by_cases h2:i-a<n<;>simp [h1,h2,show i-a+a=i by omega,show a+(i-a)=i by omega]
  ·simp [h1]
 have e2:v*2 ^ a &&& ((2 ^ n-1)*2 ^ a)=v%2 ^ n*2 ^ a:=by
  apply Nat.eq_of_testBit_eq
  intro i
  rw [Nat.testBit_and,Nat.testBit_mul_two_pow,Nat.testBit_mul_two_pow,Nat.testBit_mul_two_pow,Nat.testBit_two_pow_sub_one,Nat.testBit_mod_two_pow]
  by_cases h1:a≤i
  ·by_cases h2:i-a<n<;>simp [h1,h2]
  ·simp [h1]
 have hm:∀ i,(2 ^ 32-1-(2 ^ n-1)*2 ^ a).testBit i=(decide (i<32)&&!((2 ^ n-1)*2 ^ a).testBit i):=by
  intro i
  have hlt:(2 ^ n-1)*2 ^ a<2 ^ 32:=by
   have h1:2 ^ n*2 ^ a≤2 ^ 32:=by rw [← Nat.pow_add];exact Nat.pow_le_pow_right (by decide) (by omega)
   have h2:=Nat.two_pow_pos n
   have h3:=Nat.two_pow_pos a
   have h4:(2 ^ n-1)*2 ^ a=2 ^ n*2 ^ a-2 ^ a:=by rw [Nat.sub_mul,Nat.one_mul]
   omega
  have:=Nat.testBit_two_pow_sub_succ hlt i
  rw [show (2:Nat) ^ 32-1-(2 ^ n-1)*2 ^ a=2 ^ 32-((2 ^ n-1)*2 ^ a+1) by omega,this]
 have e3:(w &&& (2 ^ 32-1-(2 ^ n-1)*2 ^ a))+(w &&& ((2 ^ n-1)*2 ^ a))=w:=by
  rw [xgO]
  ·apply Nat.eq_of_testBit_eq
   intro i
   rw [Nat.testBit_or,Nat.testBit_and,Nat.testBit_and,hm]
   by_cases h1:i<32
   ·cases w.testBit i<;>cases ((2 ^ n-1)*2 ^ a).testBit i<;>simp [h1]
   ·have:w.testBit i=false:=Nat.testBit_lt_two_pow (Nat.lt_of_lt_of_le hw (Nat.pow_le_pow_right (by decide) (by omega)))
    simp [this]
  ·apply Nat.eq_of_testBit_eq
   intro i
   rw [Nat.testBit_and,Nat.testBit_and,Nat.testBit_and,hm]
   cases ((2 ^ n-1)*2 ^ a).testBit i<;>simp
 rw [e2,← xgO]
 ·omega
 ·rw [← e2]
  apply Nat.eq_of_testBit_eq
  intro i
  rw [Nat.testBit_and,Nat.testBit_and,Nat.testBit_and,hm]
  cases ((2 ^ n-1)*2 ^ a).testBit i<;>simp
end
section
abbrev U32 (n:Nat):V:=.sc (.int .u32 (n:Int))
abbrev U64 (n:Nat):V:=.sc (.int .u64 (n:Int))
theorem xeN {base:Nat} (a n:Nat) (h:Heap) (hn:1≤n) (ha:a+n≤32):WpF S0 base x9s [V.int a,V.int n] h fun v h'=>v=.bool true∧h'=h:=by
 first | refine zu (A:=x47) rfl rfl rfl rfl ?_ | refine zB (A:=x47) rfl rfl rfl rfl ?_
 simp only [x47,oD,cD,τ,φ,ι]
 have e1:IntKind.i64.wrap (32-(n:Int))=32-n:=x08 (by omega) (by omega)
 simp only [SQ,SQB,zm,AOp.opds,step,Opd.get,zk,bin,zzc,IntKind.signed,zi,zj,zl,zb,unary,ze,zd,za,zo,zr,zh,zf,zg,zp,Cp.isFull,isNil,zq,simprocAttr,show (1:Int)≤n by omega,show (n:Int)≤32 by omega,e1,show (a:Int)≤32-n by omega]
theorem x53 (n m:Nat) (h:n≤m):(2:Nat) ^ n≤2 ^ m:=Nat.pow_le_pow_right (by decide) h
theorem xeO {base:Nat} (n:Nat) (h:Heap) (hn:n≤32):WpF S0 base xbQ [V.int n] h fun v h'=>v=U32 (2 ^ n-1)∧h'=h:=by
 first | refine zu (A:=x3p) rfl rfl rfl rfl ?_ | refine zB (A:=x3p) rfl rfl rfl rfl ?_
 simp only [x3p,oD,cD,τ,φ,ι]
 have hp:=x53 n 32 hn
 have hq:=Nat.two_pow_pos n
 have e1:IntKind.u64.wrap ((1:Int)*2 ^ min n IntKind.u64.bits)=((2 ^ n:Nat):Int):=by
  rw [show min n IntKind.u64.bits=n from Nat.min_eq_left (by simp only [IntKind.bits];omega),Int.one_mul,show (2:Int) ^ n=((2 ^ n:Nat):Int) by simp]
  exact x4m (by omega) (by omega)
 have e2:IntKind.u64.wrap (((2 ^ n:Nat):Int)-1)=((2 ^ n-1:Nat):Int):=by
  rw [x4m (by omega) (by omega)];omega
 have e3:IntKind.u32.wrap ((2 ^ n-1:Nat):Int)=((2 ^ n-1:Nat):Int):=x4z (by omega) (by omega)
 simp only [SQ,SQB,zm,AOp.opds,step,Opd.get,zk,bin,zzc,IntKind.signed,zi,zj,zl,zb,unary,ze,zd,za,zo,zr,zh,zf,zg,zp,Cp.isFull,isNil,zq,simprocAttr,e1,e2,e3,show ¬ (n:Int)<0 by omega]
theorem xkS {base:Nat} (w a n:Nat) (h:Heap) (hw:w<2 ^ 32) (hn:1≤n) (ha:a+n≤32):WpF S0 base xe0 [U32 w,V.int a,V.int n] h fun v h'=>v=.tup [U32 (F w a n),V.int 0]∧h'=h:=by
 first | refine zu (A:=x49) rfl rfl rfl rfl ?_ | refine zB (A:=x49) rfl rfl rfl rfl ?_
 simp only [x49,oD,cD,τ,φ,ι]
 have e1:(w:Int).fdiv (2 ^ min a IntKind.u32.bits)=((w/2 ^ a:Nat):Int):=by
  rw [show min a IntKind.u32.bits=a from Nat.min_eq_left (by simp only [IntKind.bits];omega),x6Z]
 have hp:=x53 n 32 (by omega)
 have e2:=xgL (a:=w/2 ^ a) (b:=2 ^ n-1) (Nat.lt_of_le_of_lt (Nat.div_le_self _ _) hw) (by have:=Nat.two_pow_pos n;omega)
 simp only [SQ,SQB,zm,AOp.opds,step,Opd.get,zk,bin,zzc,IntKind.signed,zi,zj,zl,zb,unary,ze,zd,za,zo,zr,zh,zf,zg,zp,Cp.isFull,isNil,zq,simprocAttr,zn (xeN a n _ hn ha),zn (xeO n _ (by omega)),e1,e2,xhI,show ¬ (a:Int)<0 by omega]
theorem x41 {base:Nat} (w a n:Nat) (h:Heap) (hw:w<2 ^ 32) (hn:1≤n) (ha:a+n≤32):WpF S0 base x1Y [U32 w,V.int a,V.int n] h fun v h'=>v=V.int (F w a n)∧h'=h:=by
 first | refine zu (A:=x3z) rfl rfl rfl rfl ?_ | refine zB (A:=x3z) rfl rfl rfl rfl ?_
 simp only [x3z,oD,cD,τ,φ,ι]
 have h1:=F_lt w a n
 have h2:=x53 n 32 (by omega)
 have e1:IntKind.i64.wrap ((F w a n:Nat):Int)=(F w a n:Nat):=x08 (by omega) (by omega)
 simp only [SQ,SQB,zm,AOp.opds,step,Opd.get,zk,bin,zzc,IntKind.signed,zi,zj,zl,zb,unary,ze,zd,za,zo,zr,zh,zf,zg,zp,Cp.isFull,isNil,zq,simprocAttr,SQX,V.cells,zn (xkS w a n _ hw hn ha),e1]
theorem xiI (n v:Nat) (hn:n=12∨n=13∨n=20∨n=21):(IntKind.i64.wrap (IntKind.u64.wrap ((v:Int)*2 ^ (64-n)))).fdiv (2 ^ (64-n))=S n v:=by
 have e:∀ m:Nat,(2:Int) ^ m=((2 ^ m:Nat):Int):=fun m=>by simp
 rw [e,Int.fdiv_eq_ediv_of_nonneg _ (Int.natCast_nonneg _),← Int.natCast_mul,xeL]
 unfold S
 rcases hn with rfl | rfl | rfl | rfl<;>simp only [IntKind.wrap,IntKind.bits,IntKind.signed,Nat.reduceSub,Nat.reducePow,Int.reducePow,Bool.true_and,decide_eq_true_eq,ge_iff_le]<;>split<;>split<;>omega
theorem xjk {base:Nat} (v n:Nat) (h:Heap) (hv:v<2 ^ 32) (hn:n=12∨n=13∨n=20∨n=21):WpF S0 base xbR [U32 v,V.int n] h fun r h'=>r=.tup [.sc (.int .i64 (S n v)),V.int 0]∧h'=h:=by
 first | refine zu (A:=x3q) rfl rfl rfl rfl ?_ | refine zB (A:=x3q) rfl rfl rfl rfl ?_
 simp only [x3q,oD,cD,τ,φ,ι]
 have e1:IntKind.i64.wrap (64-(n:Int))=((64-n:Nat):Int):=by rw [x08 (by omega) (by omega)];omega
 have e2:IntKind.u64.wrap (v:Int)=v:=x4m (by omega) (by omega)
 have e3:min (64-n) IntKind.u64.bits=64-n:=Nat.min_eq_left (by simp only [IntKind.bits];omega)
 have e4:min (64-n) IntKind.i64.bits=64-n:=Nat.min_eq_left (by simp only [IntKind.bits];omega)
 have hm:∀ base h,WpF S0 base x9s [.sc (.int .i64 0),V.int n] h fun v h'=>v=.bool true∧h'=h  :=fun base h=>xeN 0 n h (by omega) (by omega)
 simp only [SQ,SQB,zm,AOp.opds,step,Opd.get,zk,bin,zzc,IntKind.signed,zi,zj,zl,zb,unary,ze,zd,za,zo,zr,zh,zf,zg,zp,Cp.isFull,isNil,zq,simprocAttr,zn (hm _ _),e1,e2,e3,e4,show ¬ ((64-n:Nat):Int)<0 by omega,xiI n v hn]
theorem x6i {base:Nat} (v n:Nat) (h:Heap) (hv:v<2 ^ 32) (hn:n=12∨n=13∨n=20∨n=21):WpF S0 base x3K [V.int v,V.int n] h fun r h'=>r=.sc (.int .i64 (S n v))∧h'=h:=by
 first | refine zu (A:=x3c) rfl rfl rfl rfl ?_ | refine zB (A:=x3c) rfl rfl rfl rfl ?_
 simp only [x3c,oD,cD,τ,φ,ι]
 have e1:IntKind.u32.wrap (v:Int)=v:=x4z (by omega) (by omega)
 simp only [SQ,SQB,zm,AOp.opds,step,Opd.get,zk,bin,zzc,IntKind.signed,zi,zj,zl,zb,unary,ze,zd,za,zo,zr,zh,zf,zg,zp,Cp.isFull,isNil,zq,simprocAttr,SQX,V.cells,e1,zn (xjk v n _ hv hn)]
theorem x2X {base:Nat} (v i:Nat) (h:Heap) (hv:v<2 ^ 64) (hi:i<2 ^ 31):WpF S0 base x0b [U64 v,V.int i] h fun r h'=>r=V.int ((v/2 ^ i%2:Nat):Int)∧h'=h:=by
 first | refine zu (A:=x1q) rfl rfl rfl rfl ?_ | refine zB (A:=x1q) rfl rfl rfl rfl ?_
 simp only [x1q,oD,cD,τ,φ,ι]
 simp only [SQ,SQB,zm,AOp.opds,step,Opd.get,zk,bin,zzc,IntKind.signed,zi,zj,zl,zb,unary,ze,zd,za,zo,zr,zh,zf,zg,zp,Cp.isFull,isNil,zq,simprocAttr,]
 refine x1y (fun k en h'=>∃ j:Nat,k=i-j∧j≤i∧en 5=V.int j∧en 1=V.int i∧en 0=U64 (v/2 ^ j)∧h'=h) i ⟨0,rfl,Nat.zero_le _,rfl,rfl,by rw [Nat.pow_zero,Nat.div_one];rfl,rfl⟩ ?_
 rintro k en h' ⟨j,rfl,hj,e5,e1,e0,rfl⟩
 have hd:∀ j,v/2 ^ j≤v:=fun j=>Nat.div_le_self _ _
 by_cases hlt:j<i
 ·have t1:(((v/2 ^ j:Nat):Int)).tdiv 2=((v/2 ^ (j+1):Nat):Int):=by
   rw [Int.tdiv_eq_ediv_of_nonneg (Int.natCast_nonneg _),Nat.pow_succ,← Nat.div_div_eq_div_mul];generalize v/2 ^ j=q;omega
  have t2:=x4m (n:=((v/2 ^ (j+1):Nat):Int)) (Int.natCast_nonneg _) (by have:=hd (j+1);omega)
  simp only [SQ,SQB,zm,AOp.opds,step,Opd.get,zk,bin,zzc,IntKind.signed,zi,zj,zl,zb,unary,ze,zd,za,zo,zr,zh,zf,zg,zp,Cp.isFull,isNil,zq,simprocAttr,e5,e1,e0,hlt,t1,t2]
  exact ⟨i-(j+1),by omega,j+1,rfl,by omega,by rw [x08 (by omega) (by omega)];rfl,rfl⟩
 ·have:j=i:=by omega
  subst this
  have t1:(((v/2 ^ j:Nat):Int)).tmod 2=((v/2 ^ j%2:Nat):Int):=by
   rw [Int.tmod_eq_emod_of_nonneg (Int.natCast_nonneg _)];generalize v/2 ^ j=q;omega
  have t2:=x08 (n:=((v/2 ^ j%2:Nat):Int)) (by omega) (by omega)
  simp only [SQ,SQB,zm,AOp.opds,step,Opd.get,zk,bin,zzc,IntKind.signed,zi,zj,zl,zb,unary,ze,zd,za,zo,zr,zh,zf,zg,zp,Cp.isFull,isNil,zq,simprocAttr,e5,e1,e0,hlt,t1,t2]
theorem xa2 {base:Nat} (n:Nat) (h:Heap) (hn:n<64):WpF S0 base x2V [V.int n] h fun r h'=>r=U64 (2 ^ n)∧h'=h:=by
 first | refine zu (A:=x11) rfl rfl rfl rfl ?_ | refine zB (A:=x11) rfl rfl rfl rfl ?_
 simp only [x11,oD,cD,τ,φ,ι]
 simp only [SQ,SQB,zm,AOp.opds,step,Opd.get,zk,bin,zzc,IntKind.signed,zi,zj,zl,zb,unary,ze,zd,za,zo,zr,zh,zf,zg,zp,Cp.isFull,isNil,zq,simprocAttr,]
 refine x1y (fun k en h'=>∃ j:Nat,k=n-j∧j≤n∧en 4=V.int j∧en 0=V.int n∧en 3=U64 (2 ^ j)∧h'=h) n ⟨0,rfl,Nat.zero_le _,rfl,rfl,rfl,rfl⟩ ?_
 rintro k en h' ⟨j,rfl,hj,e4,e0,e3,rfl⟩
 by_cases hlt:j<n
 ·have hp:=x53 (j+1) 63 (by omega)
  have t2:IntKind.u64.wrap (2*((2 ^ j:Nat):Int))=((2 ^ (j+1):Nat):Int):=by
   rw [Nat.pow_succ] at *
   rw [x4m (by omega) (by omega)];omega
  simp only [SQ,SQB,zm,AOp.opds,step,Opd.get,zk,bin,zzc,IntKind.signed,zi,zj,zl,zb,unary,ze,zd,za,zo,zr,zh,zf,zg,zp,Cp.isFull,isNil,zq,simprocAttr,e4,e3,e0,hlt,t2]
  exact ⟨n-(j+1),by omega,j+1,rfl,by omega,by rw [x08 (by omega) (by omega)];rfl,rfl⟩
 ·have:j=n:=by omega
  subst this
  simp only [SQ,SQB,zm,AOp.opds,step,Opd.get,zk,bin,zzc,IntKind.signed,zi,zj,zl,zb,unary,ze,zd,za,zo,zr,zh,zf,zg,zp,Cp.isFull,isNil,zq,simprocAttr,e4,e3,e0,hlt]
end
section
theorem F_0 (w a:Nat):F w a 0=0:=by simp [F,Nat.mod_one]
theorem x4I {n:Nat} (h:n<2 ^ 63):IntKind.i64.wrap (n:Int)=n:=x08 (by omega) (by omega)
theorem xeK {n:Nat} (h:n<2 ^ 64):IntKind.u64.wrap (n:Int)=n:=x4m (by omega) (by omega)
theorem x60 {n:Nat} (h:n<2 ^ 32):IntKind.u32.wrap (n:Int)=n:=x4z (by omega) (by omega)
theorem xfA (v n:Nat):v%2 ^ (n+1)=v%2 ^ n+2 ^ n*(v/2 ^ n%2):=Nat.mod_pow_succ
theorem xjx {base:Nat} (v n:Nat) (h:Heap) (hv:v<2 ^ 64) (hn0:1≤n) (hn:n≤40):WpF S0 base x4p [U64 v,V.int n] h fun r h'=>r=.sc (.int .i64 (S n v))∧h'=h:=by
 obtain ⟨m,rfl⟩:∃ m,n=m+1:=⟨n-1,by omega⟩
 have e1:IntKind.i64.wrap (((m+1:Nat):Int)-1)=(m:Int):=by rw [x08 (by omega) (by omega)];omega
 have hb:∀ j:Nat,v/2 ^ j%2<2:=fun j=>Nat.mod_lt _ (by decide)
 have hB:∀ j:Nat,j≤64→∀ base h,WpF S0 base x0b [U64 v,V.int j] h fun r h'=>r=V.int ((v/2 ^ j%2:Nat):Int)∧h'=h:=fun j hj base h=>x2X v j h hv (by omega)
 first | refine zu (A:=x1f) rfl rfl rfl rfl ?_ | refine zB (A:=x1f) rfl rfl rfl rfl ?_
 simp only [x1f,oD,cD,τ,φ,ι]
 simp only [SQ,SQB,zm,AOp.opds,step,Opd.get,zk,bin,zzc,IntKind.signed,zi,zj,zl,zb,unary,ze,zd,za,zo,zr,zh,zf,zg,zp,Cp.isFull,isNil,zq,simprocAttr,]
 refine x1y (fun k en h'=>∃ j:Nat,k=m-j∧j≤m∧en 7=V.int j∧en 0=U64 v∧en 1=V.int ((m+1:Nat):Int)∧en 5=V.int ((v%2 ^ j:Nat):Int)∧en 6=V.int ((2 ^ j:Nat):Int)∧h'=h) m ⟨0,rfl,Nat.zero_le _,rfl,rfl,rfl,by rw [Nat.pow_zero,Nat.mod_one];rfl,rfl,rfl⟩ ?_
 rintro k en h' ⟨j,rfl,hj,e7,e0,f1,e5,e6,rfl⟩
 have hp:=x53 j 40 (by omega)
 have hm:=Nat.mod_lt v (Nat.two_pow_pos j)
 by_cases hlt:j<m
 ·have t1:IntKind.i64.wrap (((2 ^ j:Nat):Int)*((v/2 ^ j%2:Nat):Int))=((2 ^ j*(v/2 ^ j%2):Nat):Int):=by
   rw [← Int.natCast_mul]
   have:=hb j
   rcases (show v/2 ^ j%2=0∨v/2 ^ j%2=1 by omega) with q | q<;>rw [q]<;>exact x4I (by omega)
  have t2:IntKind.i64.wrap (((v%2 ^ j:Nat):Int)+((2 ^ j*(v/2 ^ j%2):Nat):Int))=((v%2 ^ (j+1):Nat):Int):=by
   have h2:=Nat.mod_lt v (Nat.two_pow_pos (j+1))
   have h3:=x53 (j+1) 40 (by omega)
   rw [← Int.natCast_add,← xfA]
   exact x4I (by omega)
  have t3:IntKind.i64.wrap (2*((2 ^ j:Nat):Int))=((2 ^ (j+1):Nat):Int):=by
   rw [Nat.pow_succ,x08 (by omega) (by omega)];omega
  simp only [SQ,SQB,zm,AOp.opds,step,Opd.get,zk,bin,zzc,IntKind.signed,zi,zj,zl,zb,unary,ze,zd,za,zo,zr,zh,zf,zg,zp,Cp.isFull,isNil,zq,simprocAttr,e7,e0,f1,e5,e6,hlt,e1,zn (hB j (by omega) _ _),t1,t2,t3]
  exact ⟨m-(j+1),by omega,j+1,rfl,by omega,by rw [x08 (by omega) (by omega)];rfl,rfl,rfl⟩
 ·have:j=m:=by omega
  subst this
  have t1:IntKind.i64.wrap (((2 ^ j:Nat):Int)*((v/2 ^ j%2:Nat):Int))=((2 ^ j*(v/2 ^ j%2):Nat):Int):=by
   rw [← Int.natCast_mul]
   have:=hb j
   rcases (show v/2 ^ j%2=0∨v/2 ^ j%2=1 by omega) with q | q<;>rw [q]<;>exact x4I (by omega)
  have t2:IntKind.i64.wrap (((v%2 ^ j:Nat):Int)-((2 ^ j*(v/2 ^ j%2):Nat):Int))=S (j+1) v:=by
   have:=hb j
   have e:(2:Int) ^ (j+1)=((2 ^ (j+1):Nat):Int):=by simp
   unfold S
   rw [xfA,e,Nat.add_sub_cancel,Nat.pow_succ]
   rcases (show v/2 ^ j%2=0∨v/2 ^ j%2=1 by omega) with q | q<;>rw [q]
   ·rw [if_pos (by omega),x08 (by omega) (by omega)];omega
   ·rw [if_neg (by omega),x08 (by omega) (by omega)];omega
  simp only [SQ,SQB,zm,AOp.opds,step,Opd.get,zk,bin,zzc,IntKind.signed,zi,zj,zl,zb,unary,ze,zd,za,zo,zr,zh,zf,zg,zp,Cp.isFull,isNil,zq,simprocAttr,e7,e0,f1,e5,e6,hlt,e1,zn (hB j (by omega) _ _),t1,t2]
theorem xeH (w a j b:Nat):F w a (j+1)*2 ^ b=F w a j*2 ^ b+w/2 ^ (a+j)%2*2 ^ (b+j):=by
 rw [xn6,Nat.add_mul,Nat.pow_add 2 b j,Nat.mul_comm (2 ^ j),Nat.mul_assoc,Nat.mul_comm (2 ^ j)]
theorem xh2 (w a j b n:Nat) (h:b+j≤n):F w a j*2 ^ b<2 ^ n:=by
 have h1:=F_lt w a j
 have h2:=x53 (j+b) n (by omega)
 have h3:=Nat.mul_lt_mul_of_pos_right h1 (Nat.two_pow_pos b)
 rw [← Nat.pow_add] at h3
 omega
def uN (n:Int):Nat:=(n%18446744073709551616).toNat
theorem x1u (n:Int):uN n<2 ^ 64:=by unfold uN;omega
theorem x0d (n:Int):IntKind.u64.wrap n=(uN n:Int):=by
 simp only [IntKind.wrap,IntKind.bits,IntKind.signed,uN]
 simp
 omega
theorem x4v {n:Nat} (h:n<2 ^ 64):uN (n:Int)=n:=by unfold uN;omega
theorem x1R {base:Nat} (w:Int) (f n a:Nat) (h:Heap) (hf:f≤32) (hfn:f+n≤64) (hn:a+n≤32):WpF S0 base x0c [.sc (.int .i64 w),V.int f,V.int n,V.int a] h fun r h'=>r=U32 (F (uN w) f n*2 ^ a)∧h'=h:=by
 have t0:=x0d w
 have hu:=x1u w
 revert t0 hu
 generalize uN w=u
 intro t0 hu
 first | refine zu (A:=x19) rfl rfl rfl rfl ?_ | refine zB (A:=x19) rfl rfl rfl rfl ?_
 simp only [x19,oD,cD,τ,φ,ι]
 simp only [SQ,SQB,zm,AOp.opds,step,Opd.get,zk,bin,zzc,IntKind.signed,zi,zj,zl,zb,unary,ze,zd,za,zo,zr,zh,zf,zg,zp,Cp.isFull,isNil,zq,simprocAttr,]
 refine x1y (fun k en h'=>∃ j:Nat,k=n-j∧j≤n∧en 10=V.int j∧en 0=.sc (.int .i64 w)∧en 1=V.int f∧en 2=V.int n∧en 3=V.int a∧en 9=U64 (F u f j*2 ^ a)∧h'=h) n ⟨0,rfl,Nat.zero_le _,rfl,rfl,rfl,rfl,rfl,by rw [F_0,Nat.zero_mul];rfl,rfl⟩ ?_
 rintro k en h' ⟨j,rfl,hj,e10,e0,e1,e2,e3,e9,rfl⟩
 by_cases hlt:j<n
 ·have hB:∀ base h,WpF S0 base x0b [U64 u,V.int ((f+j:Nat):Int)] h fun r h'=>r=V.int ((u/2 ^ (f+j)%2:Nat):Int)∧h'=h:=fun base h=>x2X u (f+j) h (by omega) (by omega)
  have hP:∀ base h,WpF S0 base x2V [V.int ((a+j:Nat):Int)] h fun r h'=>r=U64 (2 ^ (a+j))∧h'=h:=fun base h=>xa2 (a+j) h (by omega)
  have hp:=x53 (a+j) 40 (by omega)
  have t1:IntKind.i64.wrap ((f:Int)+(j:Int))=((f+j:Nat):Int):=by rw [x08 (by omega) (by omega)];omega
  have t2:IntKind.i64.wrap ((a:Int)+(j:Int))=((a+j:Nat):Int):=by rw [x08 (by omega) (by omega)];omega
  have h5:=xh2 u f (j+1) a 40 (by omega)
  have h6:=xeH u f j a
  have h7:u/2 ^ (f+j)%2<2:=Nat.mod_lt _ (by decide)
  rcases (show u/2 ^ (f+j)%2=0∨u/2 ^ (f+j)%2=1 by omega) with q | q
  ·rw [q] at hB h6
   simp only [SQ,SQB,zm,AOp.opds,step,Opd.get,zk,bin,zzc,IntKind.signed,zi,zj,zl,zb,unary,ze,zd,za,zo,zr,zh,zf,zg,zp,Cp.isFull,isNil,zq,simprocAttr,e10,e0,e1,e2,e3,e9,hlt,t0,t1,zn (hB _ _),Int.reduceEq]
   exact ⟨n-(j+1),by omega,j+1,rfl,by omega,by rw [x08 (by omega) (by omega)];rfl,by rw [h6,Nat.zero_mul,Nat.add_zero]⟩
  ·rw [q] at hB h6
   have t5:IntKind.u64.wrap (((F u f j*2 ^ a:Nat):Int)+((2 ^ (a+j):Nat):Int))=((F u f (j+1)*2 ^ a:Nat):Int):=by
    rw [Nat.one_mul] at h6
    rw [← Int.natCast_add,← h6]
    exact xeK (by omega)
   simp only [SQ,SQB,zm,AOp.opds,step,Opd.get,zk,bin,zzc,IntKind.signed,zi,zj,zl,zb,unary,ze,zd,za,zo,zr,zh,zf,zg,zp,Cp.isFull,isNil,zq,simprocAttr,e10,e0,e1,e2,e3,e9,hlt,t0,t1,t2,zn (hB _ _),zn (hP _ _),t5,Int.reduceEq]
   exact ⟨n-(j+1),by omega,j+1,rfl,by omega,by rw [x08 (by omega) (by omega)];rfl,rfl⟩
 ·have:j=n:=by omega
  subst this
  have h5:=xh2 u f j a 32 (by omega)
  have t6:=x60 (n:=F u f j*2 ^ a) (by omega)
  simp only [SQ,SQB,zm,AOp.opds,step,Opd.get,zk,bin,zzc,IntKind.signed,zi,zj,zl,zb,unary,ze,zd,za,zo,zr,zh,zf,zg,zp,Cp.isFull,isNil,zq,simprocAttr,e10,e0,e1,e2,e3,e9,hlt,t6]
end
section
theorem xjf (s:ByteArray) (k:Nat):s[k]?=s.data.toList[k]?:=by
 by_cases h:k<s.size
 ·have h':k<s.data.toList.length:=by simpa using h
  rw [List.getElem?_eq_getElem h',getElem?_pos s k h]
  rfl
 ·have h':s.data.toList.length≤k:=by
   have:s.data.toList.length=s.size:=by simp
   omega
  rw [List.getElem?_eq_none h',getElem?_neg s k h]
def letS:ByteArray:=⟨#[85,85,74,73,66,66,66,66,66,66,73,73,73,73,73,73,73,83,83,83,83,73,73,73,73,73,73,72,72,72,73,87,87,87,82,82,82,82,82,82,82,82,82,82,82,82,82,82,82,82,82,82,82,82,82,82,82,82,82,82,82,82,70,78,78,76,65,65,65,65,65,65,65,65,65,65,76,65,65,65,65,65,65,65,65,65,65]⟩
def letB (op:Int):Nat:=if 1≤op∧op≤87 then (letS.data.toList.getD (op-1).toNat 0).toNat else 0
theorem x8i {base:Nat} (op:Int) (h:Heap):WpF S0 base x1A [.sc (.int .i64 op)] h fun v h'=>v=.sc (.int .u8 (letB op))∧h'=h:=by
 first | refine zu (A:=x0Q) rfl rfl rfl rfl ?_ | refine zB (A:=x0Q) rfl rfl rfl rfl ?_
 simp only [x0Q,oD,cD,τ,φ,ι]
 by_cases h1:op<1
 ·simp only [SQ,SQB,zm,AOp.opds,step,Opd.get,zk,bin,zzc,IntKind.signed,zi,zj,zl,zb,unary,ze,zd,za,zo,zr,zh,zf,zg,zp,Cp.isFull,isNil,zq,simprocAttr,h1]
  simp [letB,show ¬ (1≤op∧op≤87) by omega]
 by_cases h2:87<op
 ·simp only [SQ,SQB,zm,AOp.opds,step,Opd.get,zk,bin,zzc,IntKind.signed,zi,zj,zl,zb,unary,ze,zd,za,zo,zr,zh,zf,zg,zp,Cp.isFull,isNil,zq,simprocAttr,h1,h2]
  simp [letB,show ¬ (1≤op∧op≤87) by omega]
 have hl:(op-1).toNat<letS.data.toList.length:=by
  have:letS.data.toList.length=87:=by decide
  omega
 have e1:letS[(op-1).toNat]?=some (letS.data.toList[(op-1).toNat]):=by
  rw [xjf,List.getElem?_eq_getElem hl]
 unfold letS at e1
 have e2:IntKind.i64.wrap (op-1)=op-1:=x08 (by omega) (by omega)
 simp only [SQ,SQB,zm,AOp.opds,step,Opd.get,zk,bin,zzc,IntKind.signed,zi,zj,zl,zb,unary,ze,zd,za,zo,zr,zh,zf,zg,zp,Cp.isFull,isNil,zq,simprocAttr,h1,h2,e2,show (0:Int)≤op-1 by omega,show ¬ (op-1<0) by omega,e1]
 unfold letB
 rw [if_pos ⟨by omega,by omega⟩,List.getD_eq_getElem?_getD,List.getElem?_eq_getElem hl]
 rfl
theorem xb6 {base:Nat} (op:Int) (l:ByteArray) (h:Heap) (hl:l.size<1000):WpF S0 base x1E [.sc (.int .i64 op),.sc (.string l)] h fun v h'=>v=.bool (l.data.toList.any fun c=>letB op==c.toNat)∧h'=h:=by
 have hL:∀ base h,WpF S0 base x1A [.sc (.int .i64 op)] h fun v h'=>v=.sc (.int .u8 (letB op))∧h'=h:=fun base h=>x8i op h
 have hsz:l.data.toList.length=l.size:=by simp
 first | refine zu (A:=x1o) rfl rfl rfl rfl ?_ | refine zB (A:=x1o) rfl rfl rfl rfl ?_
 simp only [x1o,oD,cD,τ,φ,ι]
 simp only [SQ,SQB,zm,AOp.opds,step,Opd.get,zk,bin,zzc,IntKind.signed,zi,zj,zl,zb,unary,ze,zd,za,zo,zr,zh,zf,zg,zp,Cp.isFull,isNil,zq,simprocAttr,]
 refine x1y (fun k en h'=>∃ i:Nat,k=l.size-i∧i≤l.size∧en 5=V.int i∧en 0=.sc (.int .i64 op)∧en 1=.sc (.string l)∧((l.data.toList.take i).any fun c=>letB op==c.toNat)=false∧h'=h) l.size ⟨0,rfl,Nat.zero_le _,rfl,rfl,rfl,rfl,rfl⟩ ?_
 rintro k en h' ⟨i,rfl,hi,e5,e0,e1,hall,rfl⟩
 by_cases h4:i<l.size
 ·have h4':i<l.data.toList.length:=by omega
  have hbi:l[i]?=some l.data.toList[i]:=by rw [xjf,List.getElem?_eq_getElem h4']
  have htk:l.data.toList.take (i+1)=l.data.toList.take i++[l.data.toList[i]]:=by rw [List.take_add_one,List.getElem?_eq_getElem h4'];rfl
  by_cases hc:letB op=(l.data.toList[i]).toNat
  ·have hany:(l.data.toList.any fun c=>letB op==c.toNat)=true:=by
    rw [List.any_eq_true]
    exact ⟨_,List.getElem_mem h4',by rw [hc];simp⟩
   rw [hany]
   simp only [SQ,SQB,zm,AOp.opds,step,Opd.get,zk,bin,zzc,IntKind.signed,zi,zj,zl,zb,unary,ze,zd,za,zo,zr,zh,zf,zg,zp,Cp.isFull,isNil,zq,simprocAttr,e5,e0,e1,h4,hbi,zn (hL _ _),hc]
  ·simp only [SQ,SQB,zm,AOp.opds,step,Opd.get,zk,bin,zzc,IntKind.signed,zi,zj,zl,zb,unary,ze,zd,za,zo,zr,zh,zf,zg,zp,Cp.isFull,isNil,zq,simprocAttr,e5,e0,e1,h4,hbi,zn (hL _ _),show ¬ ((letB op:Int)=((l.data.toList[i]).toNat:Int)) by omega]
   exact ⟨l.size-(i+1),by omega,i+1,rfl,by omega,by rw [x08 (by omega) (by omega)];rfl,by rw [htk,List.any_append,hall];simp only [List.any_cons,List.any_nil,Bool.or_false,Bool.false_or,beq_eq_false_iff_ne];exact hc⟩
 ·simp only [SQ,SQB,zm,AOp.opds,step,Opd.get,zk,bin,zzc,IntKind.signed,zi,zj,zl,zb,unary,ze,zd,za,zo,zr,zh,zf,zg,zp,Cp.isFull,isNil,zq,simprocAttr,e5,e0,e1,h4]
  have:l.data.toList.take i=l.data.toList:=List.take_of_length_le (by omega)
  rw [this] at hall
  rw [hall]
def x7i (c:Int):Int:=if c=85 then 1 else if c=74 then 2 else if c=73 then 3 else if c=66 then 4 else if c=83 then 5 else if c=82 then 6 else if c=72 then 7 else if c=87 then 8 else if c=70 then 9 else if c=78 then 0 else if c=76 then 10 else if c=65 then 11 else -1
def x0a (op:Int):Int:=x7i (letB op)
theorem xgb {base:Nat} (op:Int) (h:Heap):WpF S0 base x6c [.sc (.int .i64 op)] h fun v h'=>v=.sc (.int .i64 (x0a op))∧h'=h:=by
 have hL:∀ base h,WpF S0 base x1A [.sc (.int .i64 op)] h fun v h'=>v=.sc (.int .u8 (letB op))∧h'=h:=fun base h=>x8i op h
 unfold x0a
 generalize letB op=c at *
 first | refine zu (A:=x1e) rfl rfl rfl rfl ?_ | refine zB (A:=x1e) rfl rfl rfl rfl ?_
 simp only [x1e,oD,cD,τ,φ,ι]
 (simp only [SQ,zm,AOp.opds,step,Opd.get,zk,bin,zzc,IntKind.signed,zi,zj,zl,zb,unary,ze,zd,za,zo,zr,zh,zf,zg,zp,Cp.isFull,isNil,zq,simprocAttr,SQX,V.cells,zn (hL _ _)];repeat' ((first | refine x0G ?_ ?_ | refine x0u ?_ ?_ | refine x0v ?_ ?_)<;>(intro hb;simp only [SQ,zm,AOp.opds,step,Opd.get,zk,bin,zzc,IntKind.signed,zi,zj,zl,zb,unary,ze,zd,za,zo,zr,zh,zf,zg,zp,Cp.isFull,isNil,zq,simprocAttr,SQX,V.cells,hb,zn (hL _ _)])))
 all_goals simp_all [x7i]
def fRd (f:Int):Bool:=f==1||f==2||f==3||f==6||f==7||f==8||f==10||f==11
def fA (f:Int):Bool:=f==3||f==4||f==5||f==6||f==7||f==8||f==10||f==11
def fB (f:Int):Bool:=f==4||f==5||f==6||f==11
def fO (f:Int):Bool:=f==10||f==11
theorem xjT (op:Int):letB op<128:=by
 unfold letB
 split
 ·rename_i h
  obtain ⟨n,rfl⟩:∃ n:Nat,op=n+1:=⟨(op-1).toNat,by omega⟩
  have:∀ n<87,(letS.data.toList.getD n 0).toNat<128:=by decide
  rw [show ((n:Int)+1-1).toNat=n by omega]
  exact this n (by omega)
 ·decide
theorem xak (op:Int):((([85,74,73,82,72,87,76,65]:List UInt8).any fun c=>letB op==c.toNat)=fRd (x0a op))∧((([73,66,83,82,72,87,76,65]:List UInt8).any fun c=>letB op==c.toNat)=fA (x0a op))∧((([66,83,82,65]:List UInt8).any fun c=>letB op==c.toNat)=fB (x0a op))∧((([76,65]:List UInt8).any fun c=>letB op==c.toNat)=fO (x0a op)):=by
 unfold x0a
 have h:=xjT op
 generalize letB op=c at *
 have:∀ c<128,((([85,74,73,82,72,87,76,65]:List UInt8).any fun d=>c==d.toNat)=fRd (x7i c))∧((([73,66,83,82,72,87,76,65]:List UInt8).any fun d=>c==d.toNat)=fA (x7i c))∧((([66,83,82,65]:List UInt8).any fun d=>c==d.toNat)=fB (x7i c))∧((([76,65]:List UInt8).any fun d=>c==d.toNat)=fO (x7i c)):=by decide +kernel
 obtain ⟨a1,a2,a3,a4⟩:=this c h
 exact ⟨a1,a2,a3,a4⟩
theorem xc6 {base:Nat} (op:Int) (h:Heap):WpF S0 base x5W [.sc (.int .i64 op)] h fun v h'=>v=.bool (fRd (x0a op))∧h'=h:=by
 have hL:∀ base h,WpF S0 base x1E [.sc (.int .i64 op),.sc (.string ⟨#[85,74,73,82,72,87,76,65]⟩)] h fun v h'=>v=.bool (fRd (x0a op))∧h'=h:=fun base h=>(xak op).1▸xb6 op ⟨#[85,74,73,82,72,87,76,65]⟩ h (by decide)
 first | refine zu (A:=x10) rfl rfl rfl rfl ?_ | refine zB (A:=x10) rfl rfl rfl rfl ?_
 simp only [x10,oD,cD,τ,φ,ι]
 simp only [SQ,SQB,zm,AOp.opds,step,Opd.get,zk,bin,zzc,IntKind.signed,zi,zj,zl,zb,unary,ze,zd,za,zo,zr,zh,zf,zg,zp,Cp.isFull,isNil,zq,simprocAttr,zn (hL _ _)]
theorem xlH {base:Nat} (op:Int) (h:Heap):WpF S0 base x6b [.sc (.int .i64 op)] h fun v h'=>v=.bool (fA (x0a op))∧h'=h:=by
 have hL:∀ base h,WpF S0 base x1E [.sc (.int .i64 op),.sc (.string ⟨#[73,66,83,82,72,87,76,65]⟩)] h fun v h'=>v=.bool (fA (x0a op))∧h'=h:=fun base h=>(xak op).2.1▸xb6 op ⟨#[73,66,83,82,72,87,76,65]⟩ h (by decide)
 first | refine zu (A:=x1d) rfl rfl rfl rfl ?_ | refine zB (A:=x1d) rfl rfl rfl rfl ?_
 simp only [x1d,oD,cD,τ,φ,ι]
 simp only [SQ,SQB,zm,AOp.opds,step,Opd.get,zk,bin,zzc,IntKind.signed,zi,zj,zl,zb,unary,ze,zd,za,zo,zr,zh,zf,zg,zp,Cp.isFull,isNil,zq,simprocAttr,zn (hL _ _)]
theorem xlG {base:Nat} (op:Int) (h:Heap):WpF S0 base x6a [.sc (.int .i64 op)] h fun v h'=>v=.bool (fB (x0a op))∧h'=h:=by
 have hL:∀ base h,WpF S0 base x1E [.sc (.int .i64 op),.sc (.string ⟨#[66,83,82,65]⟩)] h fun v h'=>v=.bool (fB (x0a op))∧h'=h:=fun base h=>(xak op).2.2.1▸xb6 op ⟨#[66,83,82,65]⟩ h (by decide)
 first | refine zu (A:=x1c) rfl rfl rfl rfl ?_ | refine zB (A:=x1c) rfl rfl rfl rfl ?_
 simp only [x1c,oD,cD,τ,φ,ι]
 simp only [SQ,SQB,zm,AOp.opds,step,Opd.get,zk,bin,zzc,IntKind.signed,zi,zj,zl,zb,unary,ze,zd,za,zo,zr,zh,zf,zg,zp,Cp.isFull,isNil,zq,simprocAttr,zn (hL _ _)]
end
section
def inI (o a b:Int):Bool:=decide (a≤o)&&decide (o≤b)
theorem x7B {base:Nat} (o a b:Int) (h:Heap):WpF S0 base xd0 [.sc (.int .i64 o),.sc (.int .i64 a),.sc (.int .i64 b)] h fun v h'=>v=.bool (inI o a b)∧h'=h:=by
 first | refine zu (A:=x5K) rfl rfl rfl rfl ?_ | refine zB (A:=x5K) rfl rfl rfl rfl ?_
 simp only [x5K,oD,cD,τ,φ,ι]
 (simp only [SQ,zm,AOp.opds,step,Opd.get,zk,bin,zzc,IntKind.signed,zi,zj,zl,zb,unary,ze,zd,za,zo,zr,zh,zf,zg,zp,Cp.isFull,isNil,zq,simprocAttr,SQX,V.cells];repeat' ((first | refine x0G ?_ ?_ | refine x0u ?_ ?_ | refine x0v ?_ ?_)<;>(intro hb;simp only [SQ,zm,AOp.opds,step,Opd.get,zk,bin,zzc,IntKind.signed,zi,zj,zl,zb,unary,ze,zd,za,zo,zr,zh,zf,zg,zp,Cp.isFull,isNil,zq,simprocAttr,SQX,V.cells,hb])))
 all_goals simp_all [inI]
 all_goals omega
def strOf:V→Option ByteArray
 | .sc (.string s)=>some s
 | _=>none
def xfx:Bool:=(List.range 88).all fun n=>match g0[n]? with
 | some v=>(match strOf v with
  | some s=>(s.size==0)==(n==0)
  | none=>false)
 | none=>false
theorem xfw:xfx=true:=by decide +kernel
def xaM (op:Int):ByteArray:=if 1≤op∧op≤87 then (match strOf (g0.getD op.toNat .undef) with
 | some s=>s
 | none=>⟨#[]⟩) else ⟨#[]⟩
theorem xdz {v:V} {s:ByteArray} (h:strOf v=some s):v=.sc (.string s):=by
 unfold strOf at h
 split at h
 ·simp only [Option.some.injEq] at h;rw [h]
 ·simp at h
theorem xcT (n:Nat) (h0:1≤n) (h:n<88):g0[n]?=some (.sc (.string (xaM n)))∧(xaM n).size≠0:=by
 have ht:=xfw
 unfold xfx at ht
 rw [List.all_eq_true] at ht
 have:=ht n (List.mem_range.2 h)
 split at this
 ·rename_i v hv
  split at this
  ·rename_i s hs
   have hv2:g0.getD n V.undef=v:=by rw [List.getD_eq_getElem?_getD,hv];rfl
   have e:xaM n=s:=by
    unfold xaM
    rw [if_pos ⟨by omega,by omega⟩,Int.toNat_natCast,hv2,hs]
   rw [hv,xdz hs,e]
   refine ⟨rfl,fun q=>?_⟩
   rw [show (s.size==0)=true by simpa using q] at this
   have:(n==0)=true:=by simpa using this
   simp at this
   omega
  ·simp at this
 ·simp at this
theorem xaL {op:Int} (h:¬ (1≤op∧op≤87)):xaM op=⟨#[]⟩:=by unfold xaM;rw [if_neg h]
theorem xdv (s:ByteArray):(s.toList==(⟨#[]⟩:ByteArray).toList)=decide (s.size=0):=by
 rw [ByteArray.toList_eq,ByteArray.toList_eq]
 have e:(⟨#[]⟩:ByteArray).data.toList=[]:=rfl
 rw [e]
 have:s.data.toList.length=s.size:=by simp
 cases hl:s.data.toList with
 | nil=>rw [hl] at this;simp at this;simp [← this]
 | cons c r=>rw [hl] at this;simp at this;simp [← this]
theorem xab (op:Int):((xaM op).toList==(⟨#[]⟩:ByteArray).toList)=decide (¬ (1≤op∧op≤87)):=by
 rw [xdv]
 by_cases h:1≤op∧op≤87
 ·obtain ⟨n,rfl⟩:∃ n:Nat,op=n:=⟨op.toNat,by omega⟩
  rw [decide_eq_false (xcT n (by omega) (by omega)).2]
  exact (decide_eq_false (fun q=>q h)).symm
 ·rw [xaL h]
  simp only [show (⟨#[]⟩:ByteArray).size=0 from rfl,decide_true]
  exact (decide_eq_true h).symm
theorem xb3 {base:Nat} (op:Int) (h:Heap):WpF S0 base xe2 [.sc (.int .i64 op)] h fun v h'=>v=.sc (.string (xaM op))∧h'=h:=by
 have hi:∀ base h,WpF S0 base xd0 [.sc (.int .i64 op),.sc (.int .i64 1),.sc (.int .i64 87)] h fun v h'=>v=.bool (inI op 1 87)∧h'=h:=fun base h=>x7B op 1 87 h
 first | refine zu (A:=x4b) rfl rfl rfl rfl ?_ | refine zB (A:=x4b) rfl rfl rfl rfl ?_
 simp only [x4b,oD,cD,τ,φ,ι]
 by_cases hr:1≤op∧op≤87
 ·obtain ⟨n,rfl⟩:∃ n:Nat,op=n:=⟨op.toNat,by omega⟩
  have e1:inI (n:Int) 1 87=true:=by simp [inI];omega
  rw [e1] at hi
  simp only [SQ,SQB,zm,AOp.opds,step,Opd.get,zk,bin,zzc,IntKind.signed,zi,zj,zl,zb,unary,ze,zd,za,zo,zr,zh,zf,zg,zp,Cp.isFull,isNil,zq,simprocAttr,SQX,V.cells,zn (hi _ _),show (n:Int)<88 by omega,show n<88 by omega,Nat.mul_one,(xcT n (by omega) (by omega)).1]
 ·have e1:inI op 1 87=false:=by simp [inI];omega
  rw [e1] at hi
  simp only [SQ,SQB,zm,AOp.opds,step,Opd.get,zk,bin,zzc,IntKind.signed,zi,zj,zl,zb,unary,ze,zd,za,zo,zr,zh,zf,zg,zp,Cp.isFull,isNil,zq,simprocAttr,zn (hi _ _)]
  rw [xaL hr]
theorem x4S (o a b:Int):inI o a b=decide (a≤o∧o≤b):=by simp [inI]
def x9m (o:Int):Int:=if o=28∨o=29∨o=30 then 7 else if o=32∨o=33∨o=34 then 8 else if o=63 then 9 else if o=64∨o=65 then 0 else if o=66∨o=77 then 10 else if 66<o then 11 else 3
theorem xea {base:Nat} (op:Int) (h:Heap):WpF S0 base xbS [.sc (.int .i64 op)] h fun v h'=>v=.sc (.int .i64 (x9m op))∧h'=h:=by
 first | refine zu (A:=x3s) rfl rfl rfl rfl ?_ | refine zB (A:=x3s) rfl rfl rfl rfl ?_
 simp only [x3s,oD,cD,τ,φ,ι]
 (simp only [SQ,zm,AOp.opds,step,Opd.get,zk,bin,zzc,IntKind.signed,zi,zj,zl,zb,unary,ze,zd,za,zo,zr,zh,zf,zg,zp,Cp.isFull,isNil,zq,simprocAttr,SQX,V.cells];repeat' ((first | refine x0G ?_ ?_ | refine x0u ?_ ?_ | refine x0v ?_ ?_)<;>(intro hb;simp only [SQ,zm,AOp.opds,step,Opd.get,zk,bin,zzc,IntKind.signed,zi,zj,zl,zb,unary,ze,zd,za,zo,zr,zh,zf,zg,zp,Cp.isFull,isNil,zq,simprocAttr,SQX,V.cells,hb])))
 all_goals simp_all [x9m]
 all_goals omega
def xc9 (o:Int):Int:=if ¬ (1≤o∧o≤87) then -1 else if o≤2 then 1 else if o=3 then 2 else if 5≤o∧o≤10 then 4 else if 18≤o∧o≤21 then 5 else if 35≤o∧o≤62 then 6 else x9m o
theorem x8k (o:Int):xc9 o=x0a o:=by
 by_cases h:1≤o∧o≤87
 ·obtain ⟨n,rfl⟩:∃ n:Nat,o=n:=⟨o.toNat,by omega⟩
  have:∀ n:Nat,n<88→xc9 (n:Int)=x0a (n:Int):=by decide +kernel
  exact this n (by omega)
 ·rw [xc9,if_pos h,x0a,letB,if_neg h]
  rfl
theorem x4R {base:Nat} (op:Int) (h:Heap):WpF S0 base xe3 [.sc (.int .i64 op)] h fun v h'=>v=.sc (.int .i64 (x0a op))∧h'=h:=by
 have hn:=fun base h=>xb3 (base:=base) op h
 have hi:=fun base a b h=>x7B (base:=base) op a b h
 have ho:=fun base h=>xea (base:=base) op h
 rw [← x8k]
 first | refine zu (A:=x4c) rfl rfl rfl rfl ?_ | refine zB (A:=x4c) rfl rfl rfl rfl ?_
 simp only [x4c,oD,cD,τ,φ,ι]
 (simp only [SQ,zm,AOp.opds,step,Opd.get,zk,bin,zzc,IntKind.signed,zi,zj,zl,zb,unary,ze,zd,za,zo,zr,zh,zf,zg,zp,Cp.isFull,isNil,zq,simprocAttr,SQX,V.cells,zn (hn _ _),zn (hi _ _ _ _),zn (ho _ _),zE,xab];repeat' ((first | refine x0G ?_ ?_ | refine x0u ?_ ?_ | refine x0v ?_ ?_)<;>(intro hb;simp only [SQ,zm,AOp.opds,step,Opd.get,zk,bin,zzc,IntKind.signed,zi,zj,zl,zb,unary,ze,zd,za,zo,zr,zh,zf,zg,zp,Cp.isFull,isNil,zq,simprocAttr,SQX,V.cells,hb,zn (hn _ _),zn (hi _ _ _ _),zn (ho _ _),zE,xab])))
 all_goals (simp_all [xc9,x4S];try omega)
theorem x8M {base:Nat} (f:Int) (h:Heap):WpF S0 base xaU [.sc (.int .i64 f)] h fun v h'=>v=.tup [.bool (fRd f),.bool (fA f),.bool (fB f)]∧h'=h:=by
 first | refine zu (A:=x36) rfl rfl rfl rfl ?_ | refine zB (A:=x36) rfl rfl rfl rfl ?_
 simp only [x36,oD,cD,τ,φ,ι]
 (simp only [SQ,zm,AOp.opds,step,Opd.get,zk,bin,zzc,IntKind.signed,zi,zj,zl,zb,unary,ze,zd,za,zo,zr,zh,zf,zg,zp,Cp.isFull,isNil,zq,simprocAttr,SQX,V.cells];repeat' ((first | refine x0G ?_ ?_ | refine x0u ?_ ?_ | refine x0v ?_ ?_)<;>(intro hb;simp only [SQ,zm,AOp.opds,step,Opd.get,zk,bin,zzc,IntKind.signed,zi,zj,zl,zb,unary,ze,zd,za,zo,zr,zh,zf,zg,zp,Cp.isFull,isNil,zq,simprocAttr,SQX,V.cells,hb])))
 all_goals simp_all [fRd,fA,fB]
def regI (r:Int) (has:Bool):Bool:=decide (0≤r)&&decide (r<32)&&(has||decide (r=0))
theorem xhS {base:Nat} (r:Int) (b:Bool) (h:Heap):WpF S0 base x9a [.sc (.int .i64 r),.sc (.bool b)] h fun v h'=>v=.bool (regI r b)∧h'=h:=by
 first | refine zu (A:=x2x) rfl rfl rfl rfl ?_ | refine zB (A:=x2x) rfl rfl rfl rfl ?_
 simp only [x2x,oD,cD,τ,φ,ι]
 (simp only [SQ,zm,AOp.opds,step,Opd.get,zk,bin,zzc,IntKind.signed,zi,zj,zl,zb,unary,ze,zd,za,zo,zr,zh,zf,zg,zp,Cp.isFull,isNil,zq,simprocAttr,SQX,V.cells];repeat' ((first | refine x0G ?_ ?_ | refine x0u ?_ ?_ | refine x0v ?_ ?_)<;>(intro hb;simp only [SQ,zm,AOp.opds,step,Opd.get,zk,bin,zzc,IntKind.signed,zi,zj,zl,zb,unary,ze,zd,za,zo,zr,zh,zf,zg,zp,Cp.isFull,isNil,zq,simprocAttr,SQX,V.cells,hb])))
 all_goals (simp_all [regI];try omega)
theorem xl2 {base:Nat} (r:Int) (b:Bool) (h:Heap):WpF S0 base x5e [.sc (.int .i64 r),.sc (.bool b)] h fun v h'=>v=.bool (regI r b)∧h'=h:=by
 first | refine zu (A:=x0F) rfl rfl rfl rfl ?_ | refine zB (A:=x0F) rfl rfl rfl rfl ?_
 simp only [x0F,oD,cD,τ,φ,ι]
 (simp only [SQ,zm,AOp.opds,step,Opd.get,zk,bin,zzc,IntKind.signed,zi,zj,zl,zb,unary,ze,zd,za,zo,zr,zh,zf,zg,zp,Cp.isFull,isNil,zq,simprocAttr,SQX,V.cells];repeat' ((first | refine x0G ?_ ?_ | refine x0u ?_ ?_ | refine x0v ?_ ?_)<;>(intro hb;simp only [SQ,zm,AOp.opds,step,Opd.get,zk,bin,zzc,IntKind.signed,zi,zj,zl,zb,unary,ze,zd,za,zo,zr,zh,zf,zg,zp,Cp.isFull,isNil,zq,simprocAttr,SQX,V.cells,hb])))
 all_goals (simp_all [regI];try omega)
end
section
def fitI (v:Int) (n:Nat):Bool:=decide (-(2 ^ (n-1))≤v)&&decide (v<2 ^ (n-1))
theorem xoE (n:Nat) (v:Int) (h0:-9223372036854775808≤v) (h1:v≤9223372036854775807) (hn:n=12∨n=13∨n=20∨n=21):(S n (uN v)==v)=fitI v n:=by
 rw [Bool.eq_iff_iff]
 unfold S fitI uN
 rw [beq_iff_eq,Bool.and_eq_true,decide_eq_true_eq,decide_eq_true_eq]
 rcases hn with rfl | rfl | rfl | rfl<;>simp only [Nat.reduceSub,Nat.reducePow,Int.reducePow,Int.reduceNeg]<;>split<;>omega
theorem xjl {base:Nat} (v:Int) (n:Nat) (h:Heap) (h0:-9223372036854775808≤v) (h1:v≤9223372036854775807) (hn:n=12∨n=13∨n=20∨n=21):WpF S0 base x46 [.sc (.int .i64 v),V.int n] h fun r h'=>r=.bool (fitI v n)∧h'=h:=by
 first | refine zu (A:=x3r) rfl rfl rfl rfl ?_ | refine zB (A:=x3r) rfl rfl rfl rfl ?_
 simp only [x3r,oD,cD,τ,φ,ι]
 have e1:IntKind.i64.wrap (64-(n:Int))=((64-n:Nat):Int):=by rw [x08 (by omega) (by omega)];omega
 have e2:=x0d v
 have e3:min (64-n) IntKind.u64.bits=64-n:=Nat.min_eq_left (by simp only [IntKind.bits];omega)
 have e4:min (64-n) IntKind.i64.bits=64-n:=Nat.min_eq_left (by simp only [IntKind.bits];omega)
 have e5:=xoE n v h0 h1 hn
 rw [← e5]
 simp only [SQ,SQB,zm,AOp.opds,step,Opd.get,zk,bin,zzc,IntKind.signed,zi,zj,zl,zb,unary,ze,zd,za,zo,zr,zh,zf,zg,zp,Cp.isFull,isNil,zq,simprocAttr,show ¬ (n:Int)<1 by omega,show ¬ (64:Int)<n by omega,e1,e2,e3,e4,show ¬ ((64-n:Nat):Int)<0 by omega,xiI n (uN v) hn]
theorem xfe {base:Nat} (v:Int) (n:Nat) (h:Heap) (hn:n=12∨n=13∨n=20∨n=21):WpF S0 base x34 [.sc (.int .i64 v),V.int n] h fun r h'=>r=.bool (fitI v n)∧h'=h:=by
 obtain ⟨m,rfl⟩:∃ m,n=m+1:=⟨n-1,by omega⟩
 have hP:∀ base h,WpF S0 base x2V [V.int m] h fun r h'=>r=U64 (2 ^ m)∧h'=h:=fun base h=>xa2 m h (by omega)
 first | refine zu (A:=x1g) rfl rfl rfl rfl ?_ | refine zB (A:=x1g) rfl rfl rfl rfl ?_
 simp only [x1g,oD,cD,τ,φ,ι]
 have e1:IntKind.i64.wrap (((m+1:Nat):Int)-1)=(m:Int):=by rw [x08 (by omega) (by omega)];omega
 have hp:=x53 m 20 (by omega)
 have e2:IntKind.i64.wrap ((2 ^ m:Nat):Int)=((2 ^ m:Nat):Int):=x4I (by omega)
 have e:(2:Int) ^ m=((2 ^ m:Nat):Int):=by simp
 unfold fitI
 rw [Nat.add_sub_cancel,e]
 revert e2 hp
 generalize 2 ^ m=p at *
 intro hp e2
 have e3:IntKind.i64.wrap (0-(p:Int)) = -(p:Int):=by rw [x08 (by omega) (by omega)];omega
 have e4:IntKind.i64.wrap ((p:Int)-1)=(p:Int)-1:=x08 (by omega) (by omega)
 (simp only [SQ,zm,AOp.opds,step,Opd.get,zk,bin,zzc,IntKind.signed,zi,zj,zl,zb,unary,ze,zd,za,zo,zr,zh,zf,zg,zp,Cp.isFull,isNil,zq,simprocAttr,SQX,V.cells,show ¬ ((m+1:Nat):Int)<1 by omega,show ¬ (64:Int)<((m+1:Nat):Int) by omega,show ¬ ((m+1:Nat):Int)=64 by omega,e1,zn (hP _ _),e2,e3,e4];repeat' ((first | refine x0G ?_ ?_ | refine x0u ?_ ?_ | refine x0v ?_ ?_)<;>(intro hb;simp only [SQ,zm,AOp.opds,step,Opd.get,zk,bin,zzc,IntKind.signed,zi,zj,zl,zb,unary,ze,zd,za,zo,zr,zh,zf,zg,zp,Cp.isFull,isNil,zq,simprocAttr,SQX,V.cells,hb,show ¬ ((m+1:Nat):Int)<1 by omega,show ¬ (64:Int)<((m+1:Nat):Int) by omega,show ¬ ((m+1:Nat):Int)=64 by omega,e1,zn (hP _ _),e2,e3,e4])))
 all_goals (simp_all;try omega)
def immI (f n:Int):Bool:=if f=1 then fitI n 20 else if f=2 then fitI n 21&&decide (n.tmod 2=0) else if f=4 then fitI n 13&&decide (n.tmod 2=0) else if f=3∨f=5 then fitI n 12 else if f=7 then decide (0≤n)&&decide (n≤63) else if f=8 then decide (0≤n)&&decide (n≤31) else if f=9 then decide (0≤n)&&decide (n≤255) else decide (n=0)
theorem xhT {base:Nat} (f n:Int) (h:Heap) (h0:-9223372036854775808≤n) (h1:n≤9223372036854775807):WpF S0 base x8F [.sc (.int .i64 f),.sc (.int .i64 n)] h fun v h'=>v=.bool (immI f n)∧h'=h:=by
 have hi:=fun base a b h=>x7B (base:=base) n a b h
 have hf:∀ (m:Nat),(m=12∨m=13∨m=20∨m=21)→∀ base h,WpF S0 base x46 [.sc (.int .i64 n),.sc (.int .i64 (m:Int))] h fun r h'=>r=.bool (fitI n m)∧h'=h:=fun m hm base h=>xjl n m h h0 h1 hm
 have hf12:∀ base h,WpF S0 base x46 [.sc (.int .i64 n),.sc (.int .i64 12)] h fun r h'=>r=.bool (fitI n 12)∧h'=h:=fun base h=>hf 12 (.inl rfl) base h
 have hf13:∀ base h,WpF S0 base x46 [.sc (.int .i64 n),.sc (.int .i64 13)] h fun r h'=>r=.bool (fitI n 13)∧h'=h:=fun base h=>hf 13 (.inr (.inl rfl)) base h
 have hf20:∀ base h,WpF S0 base x46 [.sc (.int .i64 n),.sc (.int .i64 20)] h fun r h'=>r=.bool (fitI n 20)∧h'=h:=fun base h=>hf 20 (.inr (.inr (.inl rfl))) base h
 have hf21:∀ base h,WpF S0 base x46 [.sc (.int .i64 n),.sc (.int .i64 21)] h fun r h'=>r=.bool (fitI n 21)∧h'=h:=fun base h=>hf 21 (.inr (.inr (.inr rfl))) base h
 first | refine zu (A:=x24) rfl rfl rfl rfl ?_ | refine zB (A:=x24) rfl rfl rfl rfl ?_
 simp only [x24,oD,cD,τ,φ,ι]
 (simp only [SQ,zm,AOp.opds,step,Opd.get,zk,bin,zzc,IntKind.signed,zi,zj,zl,zb,unary,ze,zd,za,zo,zr,zh,zf,zg,zp,Cp.isFull,isNil,zq,simprocAttr,SQX,V.cells,zn (hi _ _ _ _),zn (hf12 _ _),zn (hf13 _ _),zn (hf20 _ _),zn (hf21 _ _)];repeat' ((first | refine x0G ?_ ?_ | refine x0u ?_ ?_ | refine x0v ?_ ?_)<;>(intro hb;simp only [SQ,zm,AOp.opds,step,Opd.get,zk,bin,zzc,IntKind.signed,zi,zj,zl,zb,unary,ze,zd,za,zo,zr,zh,zf,zg,zp,Cp.isFull,isNil,zq,simprocAttr,SQX,V.cells,hb,zn (hi _ _ _ _),zn (hf12 _ _),zn (hf13 _ _),zn (hf20 _ _),zn (hf21 _ _)])))
 all_goals (simp_all [immI,x4S];try omega)
set_option maxHeartbeats 1000000 in
theorem xlC {base:Nat} (op n:Int) (h:Heap):WpF S0 base x4Z [.sc (.int .i64 op),.sc (.int .i64 n)] h fun v h'=>v=.bool (immI (x0a op) n)∧h'=h:=by
 have hL:∀ base h,WpF S0 base x1A [.sc (.int .i64 op)] h fun v h'=>v=.sc (.int .u8 (letB op))∧h'=h:=fun base h=>x8i op h
 have hf13:∀ base h,WpF S0 base x34 [.sc (.int .i64 n),.sc (.int .i64 13)] h fun r h'=>r=.bool (fitI n 13)∧h'=h:=fun base h=>xfe n 13 h (.inr (.inl rfl))
 have hf21:∀ base h,WpF S0 base x34 [.sc (.int .i64 n),.sc (.int .i64 21)] h fun r h'=>r=.bool (fitI n 21)∧h'=h:=fun base h=>xfe n 21 h (.inr (.inr (.inr rfl)))
 unfold x0a
 generalize letB op=c at *
 first | refine zu (A:=x0D) rfl rfl rfl rfl ?_ | refine zB (A:=x0D) rfl rfl rfl rfl ?_
 simp only [x0D,oD,cD,τ,φ,ι]
 (simp only [SQ,zm,AOp.opds,step,Opd.get,zk,bin,zzc,IntKind.signed,zi,zj,zl,zb,unary,ze,zd,za,zo,zr,zh,zf,zg,zp,Cp.isFull,isNil,zq,simprocAttr,SQX,V.cells,zn (hL _ _),zn (hf13 _ _),zn (hf21 _ _)];repeat' ((first | refine x0G ?_ ?_ | refine x0u ?_ ?_ | refine x0v ?_ ?_)<;>(intro hb;simp only [SQ,zm,AOp.opds,step,Opd.get,zk,bin,zzc,IntKind.signed,zi,zj,zl,zb,unary,ze,zd,za,zo,zr,zh,zf,zg,zp,Cp.isFull,isNil,zq,simprocAttr,SQX,V.cells,hb,zn (hL _ _),zn (hf13 _ _),zn (hf21 _ _)])))
 all_goals (simp_all [immI,x7i,fitI];try omega)
 ·intro q
  have:n=4095:=by omega
  subst this
  decide
 ·generalize hx:(if (c:Int)=82 then (6:Int) else if (c:Int)=78 then 0 else if (c:Int)=76 then 10 else if (c:Int)=65 then 11 else -1)=x
  have:x=6∨x=0∨x=10∨x=11∨x = -1:=by
   rw [← hx]
   (repeat' split)<;>simp
  rcases this with rfl | rfl | rfl | rfl | rfl<;>simp
def mayI (op rd a b imm:Int) (aq rl:Bool):Bool:=decide (0≤x0a op)&&regI rd (fRd (x0a op))&&regI a (fA (x0a op))&&regI b (fB (x0a op))&&immI (x0a op) imm&&(fO (x0a op)||!aq&&!rl)
abbrev ins (op rd a b imm:Int) (aq rl:Bool):V:=.agg [.sc (.int .i64 op),.sc (.int .i64 rd),.sc (.int .i64 a),.sc (.int .i64 b),.sc (.int .i64 imm),.sc (.bool aq),.sc (.bool rl)]
theorem xga (c:Int):0≤x7i c∨x7i c = -1:=by unfold x7i;(repeat' split)<;>omega
theorem xlx (op:Int):letB op=0↔x0a op = -1:=by
 unfold x0a letB
 by_cases h:1≤op∧op≤87
 ·rw [if_pos h]
  obtain ⟨n,rfl⟩:∃ n:Nat,op=n+1:=⟨(op-1).toNat,by omega⟩
  have:∀ n:Nat,n<87→(letS.data.toList.getD n 0).toNat≠0∧x7i (letS.data.toList.getD n 0).toNat≠-1:=by decide +kernel
  rw [show ((n:Int)+1-1).toNat=n by omega]
  have:=this n (by omega)
  exact ⟨fun q=>absurd q this.1,fun q=>absurd q this.2⟩
 ·rw [if_neg h]
  exact ⟨fun _=>rfl,fun _=>rfl⟩
set_option maxHeartbeats 1000000 in
theorem x8j {base:Nat} (op rd a b imm:Int) (aq rl:Bool) (h:Heap) (h0:-9223372036854775808≤imm) (h1:imm≤9223372036854775807):WpF S0 base xfN [ins op rd a b imm aq rl] h fun v h'=>v=.bool (mayI op rd a b imm aq rl)∧h'=h:=by
 have hF:=fun base h=>x4R (base:=base) op h
 have hf:=fun base f h=>x8M (base:=base) f h
 have hR:=fun base r b h=>xhS (base:=base) r b h
 have hI:=fun base f h=>xhT (base:=base) f imm h h0 h1
 unfold mayI
 first | refine zu (A:=x4U) rfl rfl rfl rfl ?_ | refine zB (A:=x4U) rfl rfl rfl rfl ?_
 simp only [x4U,oD,cD,τ,φ,ι]
 (simp only [SQ,zm,AOp.opds,step,Opd.get,zk,bin,zzc,IntKind.signed,zi,zj,zl,zb,unary,ze,zd,za,zo,zr,zh,zf,zg,zp,Cp.isFull,isNil,zq,simprocAttr,SQX,V.cells,zn (hF _ _),zn (hf _ _ _),zn (hR _ _ _ _),zn (hI _ _ _)];repeat' ((first | refine x0G ?_ ?_ | refine x0u ?_ ?_ | refine x0v ?_ ?_)<;>(intro hb;simp only [SQ,zm,AOp.opds,step,Opd.get,zk,bin,zzc,IntKind.signed,zi,zj,zl,zb,unary,ze,zd,za,zo,zr,zh,zf,zg,zp,Cp.isFull,isNil,zq,simprocAttr,SQX,V.cells,hb,zn (hF _ _),zn (hf _ _ _),zn (hR _ _ _ _),zn (hI _ _ _)])))
 all_goals (simp_all [fO];try omega)
set_option maxHeartbeats 1000000 in
theorem xfG {base:Nat} (op rd a b imm:Int) (aq rl:Bool) (h:Heap):WpF S0 base x6D [ins op rd a b imm aq rl] h fun v h'=>v=.bool (mayI op rd a b imm aq rl)∧h'=h:=by
 have hL:∀ base h,WpF S0 base x1A [.sc (.int .i64 op)] h fun v h'=>v=.sc (.int .u8 (letB op))∧h'=h:=fun base h=>x8i op h
 have hR:=fun base r b h=>xl2 (base:=base) r b h
 have hI:=fun base h=>xlC (base:=base) op imm h
 have h1:=fun base h=>xc6 (base:=base) op h
 have h2:=fun base h=>xlH (base:=base) op h
 have h3:=fun base h=>xlG (base:=base) op h
 have h4:∀ base h,WpF S0 base x1E [.sc (.int .i64 op),.sc (.string ⟨#[76,65]⟩)] h fun v h'=>v=.bool (fO (x0a op))∧h'=h:=fun base h=>(xak op).2.2.2▸xb6 op ⟨#[76,65]⟩ h (by decide)
 have hz:=xlx op
 have hn:=xga (letB op)
 change 0≤x0a op∨x0a op = -1 at hn
 unfold mayI
 first | refine zu (A:=x1p) rfl rfl rfl rfl ?_ | refine zB (A:=x1p) rfl rfl rfl rfl ?_
 simp only [x1p,oD,cD,τ,φ,ι]
 (simp only [SQ,zm,AOp.opds,step,Opd.get,zk,bin,zzc,IntKind.signed,zi,zj,zl,zb,unary,ze,zd,za,zo,zr,zh,zf,zg,zp,Cp.isFull,isNil,zq,simprocAttr,SQX,V.cells,zn (hL _ _),zn (hR _ _ _ _),zn (hI _ _),zn (h1 _ _),zn (h2 _ _),zn (h3 _ _),zn (h4 _ _)];repeat' ((first | refine x0G ?_ ?_ | refine x0u ?_ ?_ | refine x0v ?_ ?_)<;>(intro hb;simp only [SQ,zm,AOp.opds,step,Opd.get,zk,bin,zzc,IntKind.signed,zi,zj,zl,zb,unary,ze,zd,za,zo,zr,zh,zf,zg,zp,Cp.isFull,isNil,zq,simprocAttr,SQX,V.cells,hb,zn (hL _ _),zn (hR _ _ _ _),zn (hI _ _),zn (h1 _ _),zn (h2 _ _),zn (h3 _ _),zn (h4 _ _)])))
 all_goals (simp_all;try omega)
end
section
abbrev nv (n:Int):List V:=[.sc (.int .i64 n)]
theorem x4L (l:List Int):((l.map nv).all fun r=>r.all x1h)=true:=by
 rw [List.all_eq_true]
 intro r hr
 obtain ⟨n,_,rfl⟩:=List.mem_map.1 hr
 rfl
def x5S (f n:Int) (l:List Int):Int:=match l.findIdx? (·==n) with
 | some i=>f+i
 | none=>0
theorem xcb {l:List Int} {n:Int} {i:Nat} (hi:i<l.length) (h:l[i]=n) (hno:(l.take i).any (·==n)=false):l.findIdx? (·==n)=some i:=by
 rw [List.findIdx?_eq_some_iff_getElem]
 refine ⟨hi,by simpa using h,fun j hj q=>?_⟩
 have hj':j<(l.take i).length:=by rw [List.length_take];omega
 have:=List.any_eq_false.1 hno (l.take i)[j] (List.getElem_mem hj')
 rw [List.getElem_take] at this
 exact this q
theorem x8v {base:Nat} (f n:Int) (l:List Int) (h:Heap) (hf:0≤f) (hf2:f<1000) (hl:l.length<1000):WpF S0 base xe4 [.sc (.int .i64 f),.sc (.int .i64 n),.slc .lit 1 (l.map nv)] h fun v h'=>v=.sc (.int .i64 (x5S f n l))∧h'=h:=by
 first | refine zu (A:=x4d) rfl rfl rfl rfl ?_ | refine zB (A:=x4d) rfl rfl rfl rfl ?_
 simp only [x4d,oD,cD,τ,φ,ι]
 simp only [SQ,SQB,zm,AOp.opds,step,Opd.get,zk,bin,zzc,IntKind.signed,zi,zj,zl,zb,unary,ze,zd,za,zo,zr,zh,zf,zg,zp,Cp.isFull,isNil,zq,simprocAttr,-List.reduceReplicate,]
 refine x1y (fun k en h'=>∃ i:Nat,k=l.length-i∧i≤l.length∧en 11=V.int i∧en 10=V.int l.length∧en 9=.slc .lit 1 (l.map nv)∧en 0=.sc (.int .i64 f)∧en 1=.sc (.int .i64 n)∧(l.take i).any (·==n)=false∧h'=h) l.length ⟨0,rfl,Nat.zero_le _,rfl,rfl,rfl,rfl,rfl,rfl,rfl⟩ ?_
 rintro k en h' ⟨i,rfl,hi,e11,e10,e9,e0,e1,hno,rfl⟩
 by_cases h1:i<l.length
 ·have hg':(l.map nv)[i]?=some (nv l[i]):=by simp [List.getElem?_map,h1]
  have htk:l.take (i+1)=l.take i++[l[i]]:=by rw [List.take_add_one,List.getElem?_eq_getElem h1];rfl
  by_cases h2:l[i]=n
  ·have e:IntKind.i64.wrap (f+(i:Int))=f+i:=x08 (by omega) (by omega)
   simp only [SQ,SQB,zm,AOp.opds,step,Opd.get,zk,bin,zzc,IntKind.signed,zi,zj,zl,zb,unary,ze,zd,za,zo,zr,zh,zf,zg,zp,Cp.isFull,isNil,zq,simprocAttr,-List.reduceReplicate,e11,e10,e9,e0,e1,h1,hg',List.getElem?_cons_zero,h2,e]
   unfold x5S
   rw [xcb h1 h2 hno]
  ·simp only [SQ,SQB,zm,AOp.opds,step,Opd.get,zk,bin,zzc,IntKind.signed,zi,zj,zl,zb,unary,ze,zd,za,zo,zr,zh,zf,zg,zp,Cp.isFull,isNil,zq,simprocAttr,-List.reduceReplicate,e11,e10,e9,e0,e1,h1,hg',List.getElem?_cons_zero,h2]
   exact ⟨l.length-(i+1),by omega,i+1,rfl,by omega,by rw [x08 (by omega) (by omega)];rfl,by have hno':((l.take i).any fun x=>decide (x=n))=false:=hno;rw [htk,List.any_append,hno'];simp [h2]⟩
 ·have:l.take i=l:=List.take_of_length_le (by omega)
  rw [this] at hno
  simp only [SQ,SQB,zm,AOp.opds,step,Opd.get,zk,bin,zzc,IntKind.signed,zi,zj,zl,zb,unary,ze,zd,za,zo,zr,zh,zf,zg,zp,Cp.isFull,isNil,zq,simprocAttr,-List.reduceReplicate,e11,e10,e9,e0,e1,h1]
  unfold x5S
  have:l.findIdx? (·==n)=none:=by
   rw [List.findIdx?_eq_none_iff]
   intro x hx
   simpa using List.any_eq_false.1 hno x hx
  rw [this]
theorem xhe:zv 1 (List.replicate 2 [(.sc (.int .i64 (0)))]) [(0,(.sc (.int .i64 (0)))),(1,(.sc (.int .i64 (8192))))]=some (([0,8192]:List Int).map nv):=rfl
theorem xnc {base:Nat} (w:Nat) (h:Heap) (hw:w<2 ^ 32):WpF S0 base xaZ [U32 w] h fun v h'=>v=.sc (.int .i64 (x5S 64 ((w/128:Nat):Int) [0,8192]))∧h'=h:=by
 first | refine zu (A:=x3b) rfl rfl rfl rfl ?_ | refine zB (A:=x3b) rfl rfl rfl rfl ?_
 simp only [x3b,oD,cD,τ,φ,ι]
 have e1:(w:Int).fdiv (2 ^ min 7 IntKind.u32.bits)=((w/128:Nat):Int):=x6Z w 7
 have e2:IntKind.i64.wrap ((w/128:Nat):Int)=((w/128:Nat):Int):=x4I (by omega)
 simp only [SQ,SQB,zm,AOp.opds,step,Opd.get,zk,bin,zzc,IntKind.signed,zi,zj,zl,zb,unary,ze,zd,za,zo,zr,zh,zf,zg,zp,Cp.isFull,isNil,zq,simprocAttr,-List.reduceReplicate,x0J,xhe,x4L,e1,e2,zn (x8v 64 ((w/128:Nat):Int) [0,8192] _ (by decide) (by decide) (by decide))]
abbrev arr (l:List Int):V:=.agg (l.map fun n=>.sc (.int .i64 n))
theorem xgJ (l:List Int) (i:Nat) (hi:i<l.length):(l.map fun n=>V.sc (.int .i64 n))[i]?=some (.sc (.int .i64 (l.getD i 0))):=by
 rw [List.getElem?_map,List.getElem?_eq_getElem hi,List.getD_eq_getElem?_getD,List.getElem?_eq_getElem hi];rfl
theorem x9I (l:List Int):(l.map fun n=>V.sc (.int .i64 n)).all x1h=true:=by
 rw [List.all_eq_true]
 intro r hr
 obtain ⟨n,_,rfl⟩:=List.mem_map.1 hr
 rfl
theorem xap {base:Nat} (f:Nat) (p r:List Int) (b:Bool) (h:Heap) (hf:f<8) (hp:p.length=8) (hr:r.length=8):WpF S0 base xbZ [V.int f,arr p,arr r,.sc (.bool b)] h fun v h'=>v=.sc (.int .i64 ((if b then r else p).getD f 0))∧h'=h:=by
 first | refine zu (A:=x3A) rfl rfl rfl rfl ?_ | refine zB (A:=x3A) rfl rfl rfl rfl ?_
 simp only [x3A,oD,cD,τ,φ,ι]
 cases b
 ·simp only [SQ,SQB,zm,AOp.opds,step,Opd.get,zk,bin,zzc,IntKind.signed,zi,zj,zl,zb,unary,ze,zd,za,zo,zr,zh,zf,zg,zp,Cp.isFull,isNil,zq,simprocAttr,-List.reduceReplicate,SQX,V.cells,x9I,xgJ p f (by omega),Nat.mul_one,show (f:Int)<8 by omega,show f<8 by omega]
 ·simp only [SQ,SQB,zm,AOp.opds,step,Opd.get,zk,bin,zzc,IntKind.signed,zi,zj,zl,zb,unary,ze,zd,za,zo,zr,zh,zf,zg,zp,Cp.isFull,isNil,zq,simprocAttr,-List.reduceReplicate,SQX,V.cells,x9I,xgJ r f (by omega),Nat.mul_one,show (f:Int)<8 by omega,show f<8 by omega]
abbrev ar (l:List Int):Option (List V):=some (l.map fun n=>.sc (.int .i64 n))
theorem xcu:x0q [(.sc (.int .i64 (0))),(.sc (.int .i64 (0))),(.sc (.int .i64 (0))),(.sc (.int .i64 (0))),(.sc (.int .i64 (0))),(.sc (.int .i64 (0))),(.sc (.int .i64 (0))),(.sc (.int .i64 (0)))] [(0,1,(.sc (.int .i64 (35)))),(1,1,(.sc (.int .i64 (37)))),(2,1,(.sc (.int .i64 (38)))),(3,1,(.sc (.int .i64 (39)))),(4,1,(.sc (.int .i64 (40)))),(5,1,(.sc (.int .i64 (41)))),(6,1,(.sc (.int .i64 (43)))),(7,1,(.sc (.int .i64 (44))))]=ar [35,37,38,39,40,41,43,44]:=rfl
theorem xct:x0q [(.sc (.int .i64 (0))),(.sc (.int .i64 (0))),(.sc (.int .i64 (0))),(.sc (.int .i64 (0))),(.sc (.int .i64 (0))),(.sc (.int .i64 (0))),(.sc (.int .i64 (0))),(.sc (.int .i64 (0)))] [(0,1,(.sc (.int .i64 (36)))),(5,1,(.sc (.int .i64 (42))))]=ar [36,0,0,0,0,42,0,0]:=rfl
theorem xjj {base:Nat} (f g:Nat) (h:Heap) (hf:f<8) (hg:g<128):WpF S0 base xbW [V.int f,V.int g] h fun v h'=>v=.sc (.int .i64 (if g=0 then [35,37,38,39,40,41,43,44].getD f 0 else if g=32 then [36,0,0,0,0,42,0,0].getD f 0 else if g=1 then 50+f else 0))∧h'=h:=by
 have ha:=fun base b h=>xap (base:=base) f [35,37,38,39,40,41,43,44] [36,0,0,0,0,42,0,0] b h hf rfl rfl
 have e:IntKind.i64.wrap (50+(f:Int))=50+f:=x08 (by omega) (by omega)
 first | refine zu (A:=x3w) rfl rfl rfl rfl ?_ | refine zB (A:=x3w) rfl rfl rfl rfl ?_
 simp only [x3w,oD,cD,τ,φ,ι]
 (simp only [SQ,zm,AOp.opds,step,Opd.get,zk,bin,zzc,IntKind.signed,zi,zj,zl,zb,unary,ze,zd,za,zo,zr,zh,zf,zg,zp,Cp.isFull,isNil,zq,simprocAttr,-List.reduceReplicate,SQX,V.cells,x0g,xcu,xct,zn (ha _ _ _),e];repeat' ((first | refine x0G ?_ ?_ | refine x0u ?_ ?_ | refine x0v ?_ ?_)<;>(intro hb;simp only [SQ,zm,AOp.opds,step,Opd.get,zk,bin,zzc,IntKind.signed,zi,zj,zl,zb,unary,ze,zd,za,zo,zr,zh,zf,zg,zp,Cp.isFull,isNil,zq,simprocAttr,-List.reduceReplicate,SQX,V.cells,hb,x0g,xcu,xct,zn (ha _ _ _),e])))
 all_goals (simp_all;try omega)
theorem xcF:x0q [(.sc (.int .i64 (0))),(.sc (.int .i64 (0))),(.sc (.int .i64 (0))),(.sc (.int .i64 (0))),(.sc (.int .i64 (0))),(.sc (.int .i64 (0))),(.sc (.int .i64 (0))),(.sc (.int .i64 (0)))] [(1,1,(.sc (.int .i64 (32)))),(5,1,(.sc (.int .i64 (33))))]=ar [0,32,0,0,0,33,0,0]:=rfl
theorem xcE:x0q [(.sc (.int .i64 (0))),(.sc (.int .i64 (0))),(.sc (.int .i64 (0))),(.sc (.int .i64 (0))),(.sc (.int .i64 (0))),(.sc (.int .i64 (0))),(.sc (.int .i64 (0))),(.sc (.int .i64 (0)))] [(5,1,(.sc (.int .i64 (34))))]=ar [0,0,0,0,0,34,0,0]:=rfl
def xf5 (f g:Nat):Int:=if f=0 then 31 else if g=0 then [0,32,0,0,0,33,0,0].getD f 0 else if g=32 then [0,0,0,0,0,34,0,0].getD f 0 else 0
theorem xjs {base:Nat} (f g:Nat) (h:Heap) (hf:f<8):WpF S0 base xbX [V.int f,V.int g] h fun v h'=>v=.sc (.int .i64 (xf5 f g))∧h'=h:=by
 have ha:=fun base b h=>xap (base:=base) f [0,32,0,0,0,33,0,0] [0,0,0,0,0,34,0,0] b h hf rfl rfl
 unfold xf5
 first | refine zu (A:=x3x) rfl rfl rfl rfl ?_ | refine zB (A:=x3x) rfl rfl rfl rfl ?_
 simp only [x3x,oD,cD,τ,φ,ι]
 (simp only [SQ,zm,AOp.opds,step,Opd.get,zk,bin,zzc,IntKind.signed,zi,zj,zl,zb,unary,ze,zd,za,zo,zr,zh,zf,zg,zp,Cp.isFull,isNil,zq,simprocAttr,-List.reduceReplicate,SQX,V.cells,x0g,xcF,xcE,zn (ha _ _ _)];repeat' ((first | refine x0G ?_ ?_ | refine x0u ?_ ?_ | refine x0v ?_ ?_)<;>(intro hb;simp only [SQ,zm,AOp.opds,step,Opd.get,zk,bin,zzc,IntKind.signed,zi,zj,zl,zb,unary,ze,zd,za,zo,zr,zh,zf,zg,zp,Cp.isFull,isNil,zq,simprocAttr,-List.reduceReplicate,SQX,V.cells,hb,x0g,xcF,xcE,zn (ha _ _ _)])))
 all_goals (simp_all;try omega)
theorem xfY:x0q [(.sc (.int .i64 (0))),(.sc (.int .i64 (0))),(.sc (.int .i64 (0))),(.sc (.int .i64 (0))),(.sc (.int .i64 (0))),(.sc (.int .i64 (0))),(.sc (.int .i64 (0))),(.sc (.int .i64 (0)))] [(0,1,(.sc (.int .i64 (45)))),(1,1,(.sc (.int .i64 (47)))),(5,1,(.sc (.int .i64 (48))))]=ar [45,47,0,0,0,48,0,0]:=rfl
theorem xfX:x0q [(.sc (.int .i64 (0))),(.sc (.int .i64 (0))),(.sc (.int .i64 (0))),(.sc (.int .i64 (0))),(.sc (.int .i64 (0))),(.sc (.int .i64 (0))),(.sc (.int .i64 (0))),(.sc (.int .i64 (0)))] [(0,1,(.sc (.int .i64 (46)))),(5,1,(.sc (.int .i64 (49))))]=ar [46,0,0,0,0,49,0,0]:=rfl
theorem xfW:zv 1 (List.replicate 5 [(.sc (.int .i64 (0)))]) [(0,(.sc (.int .i64 (0)))),(1,(.sc (.int .i64 (4)))),(2,(.sc (.int .i64 (5)))),(3,(.sc (.int .i64 (6)))),(4,(.sc (.int .i64 (7))))]=some (([0,4,5,6,7]:List Int).map nv):=rfl
def xk1 (f g:Nat):Int:=if g=0 then [45,47,0,0,0,48,0,0].getD f 0 else if g=32 then [46,0,0,0,0,49,0,0].getD f 0 else if g=1 then x5S 58 f [0,4,5,6,7] else 0
theorem xlI {base:Nat} (f g:Nat) (h:Heap) (hf:f<8):WpF S0 base xe5 [V.int f,V.int g] h fun v h'=>v=.sc (.int .i64 (xk1 f g))∧h'=h:=by
 have ha:=fun base b h=>xap (base:=base) f [45,47,0,0,0,48,0,0] [46,0,0,0,0,49,0,0] b h hf rfl rfl
 have hp:=fun base h=>x8v (base:=base) 58 f [0,4,5,6,7] h (by decide) (by decide) (by decide)
 unfold xk1
 first | refine zu (A:=x4e) rfl rfl rfl rfl ?_ | refine zB (A:=x4e) rfl rfl rfl rfl ?_
 simp only [x4e,oD,cD,τ,φ,ι]
 (simp only [SQ,zm,AOp.opds,step,Opd.get,zk,bin,zzc,IntKind.signed,zi,zj,zl,zb,unary,ze,zd,za,zo,zr,zh,zf,zg,zp,Cp.isFull,isNil,zq,simprocAttr,-List.reduceReplicate,SQX,V.cells,x0g,x0J,xfY,xfX,xfW,x4L,zn (ha _ _ _),zn (hp _ _)];repeat' ((first | refine x0G ?_ ?_ | refine x0u ?_ ?_ | refine x0v ?_ ?_)<;>(intro hb;simp only [SQ,zm,AOp.opds,step,Opd.get,zk,bin,zzc,IntKind.signed,zi,zj,zl,zb,unary,ze,zd,za,zo,zr,zh,zf,zg,zp,Cp.isFull,isNil,zq,simprocAttr,-List.reduceReplicate,SQX,V.cells,hb,x0g,x0J,xfY,xfX,xfW,x4L,zn (ha _ _ _),zn (hp _ _)])))
 all_goals (simp_all;try omega)
theorem xfT:x0q [(.sc (.int .i64 (0))),(.sc (.int .i64 (0))),(.sc (.int .i64 (0))),(.sc (.int .i64 (0))),(.sc (.int .i64 (0))),(.sc (.int .i64 (0))),(.sc (.int .i64 (0))),(.sc (.int .i64 (0)))] [(0,1,(.sc (.int .i64 (22)))),(1,1,(.sc (.int .i64 (28)))),(2,1,(.sc (.int .i64 (23)))),(3,1,(.sc (.int .i64 (24)))),(4,1,(.sc (.int .i64 (25)))),(5,1,(.sc (.int .i64 (29)))),(6,1,(.sc (.int .i64 (26)))),(7,1,(.sc (.int .i64 (27))))]=ar [22,28,23,24,25,29,26,27]:=rfl
theorem xfS:x0q [(.sc (.int .i64 (0))),(.sc (.int .i64 (0))),(.sc (.int .i64 (0))),(.sc (.int .i64 (0))),(.sc (.int .i64 (0))),(.sc (.int .i64 (0))),(.sc (.int .i64 (0))),(.sc (.int .i64 (0)))] [(5,1,(.sc (.int .i64 (30))))]=ar [0,0,0,0,0,30,0,0]:=rfl
def xk0 (t f:Nat):Int:=if f≠1∧f≠5 then [22,28,23,24,25,29,26,27].getD f 0 else if t=0 then [22,28,23,24,25,29,26,27].getD f 0 else if t=16 then [0,0,0,0,0,30,0,0].getD f 0 else 0
theorem xjd (l:List V):x3R 1 l=l.map fun x=>[x]:=by
 apply List.ext_getElem
 ·simp [x3R]
 ·intro i h1 h2
  have:i<l.length:=by simpa using h2
  simp only [x3R,List.getElem_map,List.getElem_range,Nat.mul_one]
  rw [List.drop_eq_getElem_cons this]
  rfl
theorem xba (l:List V):(l.map fun x=>[x]).flatten=l:=by
 induction l with
 | nil=>rfl
 | cons x r ih=>simp only [List.map_cons,List.flatten_cons,ih];rfl
theorem x2J {h:Heap} {x:Obj}:(h++[x])[h.length]?=some x:=by rw [List.getElem?_append_right (Nat.le_refl _),Nat.sub_self];rfl
theorem x7u {h:Heap} {x y:Obj}:(h++[x]).set h.length y=h++[y]:=by rw [List.set_append_right _ _ (Nat.le_refl _),Nat.sub_self];rfl
theorem xa3 {zs l:List V} (h:l.length=zs.length):x0E zs 0 l=l:=by
 simp [x0E,h]
theorem x94 {h:Heap} {t:TypeId} {zs l:List V} {n:Nat} (hz:zs.length=n) (hl:l.length=n) (hn:1<n) (ho:l.all zm=true):x0y h.length (h++[.row t 1 0 (x3R 1 zs)]) n (.rptr h.length 0 0 0) (.agg l)=some (h++[.row t 1 0 (l.map fun x=>[x])]):=by
 unfold x0y
 obtain ⟨z,r,rfl⟩:∃ z r,zs=z::r:=by
  cases zs with
  | nil=>simp at hz;omega
  | cons z r=>exact ⟨z,r,rfl⟩
 have e1:¬ (0+n≤0+1∧x0H h.length h.length l=true):=by omega
 have e2:x0H h.length h.length l=true:=by simp [x0H]
 rw [if_pos ⟨hl,ho⟩]
 simp only [x2J,xjd,List.map_cons,List.getElem?_cons_zero,V.cells,List.length_cons,List.length_nil]
 rw [if_pos trivial,if_neg e1,if_pos ⟨trivial,by rw [← List.map_cons (f:=fun x=>[x]),xba];omega,e2⟩,x7u,← List.map_cons (f:=fun x=>[x]),xba,xa3 (by omega)]
theorem xin {h:Heap} {t:TypeId} {l:List Int} {i:Nat} (hi:i<l.length):zl (h++[.row t 1 0 ((l.map fun n=>V.sc (.int .i64 n)).map fun x=>[x])]) none (.rptr h.length 0 0 i)=some (.sc (.int .i64 (l.getD i 0))):=by
 have e0:((l.map fun n=>V.sc (.int .i64 n)).map fun x=>[x])[0]?=some [.sc (.int .i64 l[0])]:=by
  rw [List.getElem?_map,List.getElem?_map,List.getElem?_eq_getElem (by omega)];rfl
 simp only [zl,rowAt,x2J,if_true,e0,Option.bind_some,Option.getD_none,List.length_cons,List.length_nil,xba,zb]
 by_cases h0:i=0
 ·subst h0
  rw [if_pos (Nat.le_refl _),List.getD_eq_getElem?_getD,List.getElem?_eq_getElem hi];rfl
 ·rw [if_neg (by omega),xgJ l i hi]
theorem xgI {h:Heap} {t:TypeId} {l:List Int} {n:Nat} (hl:l.length=n) (hn:1<n):zl (h++[.row t 1 0 ((l.map fun n=>V.sc (.int .i64 n)).map fun x=>[x])]) (some n) (.rptr h.length 0 0 0)=some (arr l):=by
 have e0:((l.map fun n=>V.sc (.int .i64 n)).map fun x=>[x])[0]?=some [.sc (.int .i64 l[0])]:=by
  rw [List.getElem?_map,List.getElem?_map,List.getElem?_eq_getElem (by omega)];rfl
 have e2:0+n≤(l.map fun n=>V.sc (.int .i64 n)).length:=by rw [List.length_map];omega
 simp only [zl,rowAt,x2J,if_true,e0,Option.bind_some,Option.getD_some,List.length_cons,List.length_nil,xba,zb,List.drop_zero]
 rw [if_neg (by omega),if_pos e2,List.take_of_length_le (by rw [List.length_map];omega)]
theorem xlB {base:Nat} (w f:Nat) (h:Heap) (hw:w<2 ^ 32) (hf:f<8):WpF S0 base x81 [U32 w,V.int f] h fun v h'=>v=.sc (.int .i64 (xk0 (F w 26 6) f))∧h'=h:=by
 have ha:=fun base b h=>xap (base:=base) f [22,28,23,24,25,29,26,27] [0,0,0,0,0,30,0,0] b h hf rfl rfl
 have hd:∀ base h,WpF S0 base x1Y [U32 w,.sc (.int .i64 26),.sc (.int .i64 6)] h fun v h'=>v=V.int (F w 26 6)∧h'=h:=fun base h=>x41 w 26 6 h hw (by decide) (by decide)
 unfold xk0
 first | refine zu (A:=x1O) rfl rfl rfl rfl ?_ | refine zB (A:=x1O) rfl rfl rfl rfl ?_
 simp only [x1O,oD,cD,τ,φ,ι]
 obtain ⟨R,es,el,el2⟩:∃ R,x0y h.length (h++[.row 136 1 0 (x3R 1 [.sc (.int .i64 0),.sc (.int .i64 0),.sc (.int .i64 0),.sc (.int .i64 0),.sc (.int .i64 0),.sc (.int .i64 0),.sc (.int .i64 0),.sc (.int .i64 0)])]) 8 (.rptr h.length 0 0 0) (arr [22,28,23,24,25,29,26,27])=some (h++[.row 136 1 0 R])∧zl (h++[.row 136 1 0 R]) none (.rptr h.length 0 0 f)=some (.sc (.int .i64 ([22,28,23,24,25,29,26,27].getD f 0)))∧zl (h++[.row 136 1 0 R]) (some 8) (.rptr h.length 0 0 0)=some (arr [22,28,23,24,25,29,26,27]):=⟨_,x94 (n:=8) (zs:=[.sc (.int .i64 0),.sc (.int .i64 0),.sc (.int .i64 0),.sc (.int .i64 0),.sc (.int .i64 0),.sc (.int .i64 0),.sc (.int .i64 0),.sc (.int .i64 0)]) (l:=[22,28,23,24,25,29,26,27].map fun n=>V.sc (.int .i64 n)) rfl rfl (by decide) rfl,xin (l:=[22,28,23,24,25,29,26,27]) hf,xgI (l:=[22,28,23,24,25,29,26,27]) rfl (by decide)⟩
 have hf1:(f:Int)<8:=by omega
 (simp only [SQ,zm,AOp.opds,step,Opd.get,zk,bin,zzc,IntKind.signed,zi,zj,zb,unary,ze,zd,za,zo,zr,zh,zf,zg,zp,Cp.isFull,isNil,zq,simprocAttr,-List.reduceReplicate,SQX,V.cells,x0g,xfT,xfS,zn (hd _ _),es,el,el2,hf,hf1,Nat.mul_one,zn (ha _ _ _)];repeat' ((first | refine x0G ?_ ?_ | refine x0u ?_ ?_ | refine x0v ?_ ?_)<;>(intro hb;simp only [SQ,zm,AOp.opds,step,Opd.get,zk,bin,zzc,IntKind.signed,zi,zj,zb,unary,ze,zd,za,zo,zr,zh,zf,zg,zp,Cp.isFull,isNil,zq,simprocAttr,-List.reduceReplicate,SQX,V.cells,hb,x0g,xfT,xfS,zn (hd _ _),es,el,el2,hf,hf1,Nat.mul_one,zn (ha _ _ _)])))
 all_goals (simp_all;try omega)
end
section
theorem xbq:zv 1 (List.replicate 11 [(.sc (.int .i64 (0)))]) [(0,(.sc (.int .i64 (2)))),(1,(.sc (.int .i64 (3)))),(2,(.sc (.int .i64 (1)))),(3,(.sc (.int .i64 (0)))),(4,(.sc (.int .i64 (4)))),(5,(.sc (.int .i64 (12)))),(6,(.sc (.int .i64 (8)))),(7,(.sc (.int .i64 (16)))),(8,(.sc (.int .i64 (20)))),(9,(.sc (.int .i64 (24)))),(10,(.sc (.int .i64 (28))))]=some (([2,3,1,0,4,12,8,16,20,24,28]:List Int).map nv):=rfl
def xkF (f t:Nat):Int:=if x5S 0 t [2,3,1,0,4,12,8,16,20,24,28]=0∧t≠2 then 0 else if f=2 then 66+x5S 0 t [2,3,1,0,4,12,8,16,20,24,28] else if f=3 then 77+x5S 0 t [2,3,1,0,4,12,8,16,20,24,28] else 0
theorem xfk (f n:Int) (l:List Int) (hf:0≤f):0≤x5S f n l∧x5S f n l≤f+l.length:=by
 unfold x5S
 split
 ·rename_i i hi
  have:=(List.findIdx?_eq_some_iff_getElem.1 hi).1
  omega
 ·omega
theorem xmS {base:Nat} (w f:Nat) (h:Heap) (hw:w<2 ^ 32):WpF S0 base xb0 [U32 w,V.int f] h fun v h'=>v=.sc (.int .i64 (xkF f (F w 27 5)))∧h'=h:=by
 have hd:∀ base h,WpF S0 base x1Y [U32 w,.sc (.int .i64 27),.sc (.int .i64 5)] h fun v h'=>v=V.int (F w 27 5)∧h'=h:=fun base h=>x41 w 27 5 h hw (by decide) (by decide)
 have hp:=fun base h=>x8v (base:=base) 0 (F w 27 5:Nat) [2,3,1,0,4,12,8,16,20,24,28] h (by decide) (by decide) (by decide)
 have hb1:=xfk 0 (F w 27 5:Nat) [2,3,1,0,4,12,8,16,20,24,28] (by decide)
 unfold xkF
 revert hp hb1
 generalize x5S 0 (F w 27 5:Nat) [2,3,1,0,4,12,8,16,20,24,28]=p at *
 intro hp hb1
 have e1:IntKind.i64.wrap (66+p)=66+p:=x08 (by omega) (by simp only [List.length_cons,List.length_nil] at hb1;omega)
 have e2:IntKind.i64.wrap (77+p)=77+p:=x08 (by omega) (by simp only [List.length_cons,List.length_nil] at hb1;omega)
 clear hb1
 first | refine zu (A:=x3d) rfl rfl rfl rfl ?_ | refine zB (A:=x3d) rfl rfl rfl rfl ?_
 simp only [x3d,oD,cD,τ,φ,ι]
 (simp only [SQ,zm,AOp.opds,step,Opd.get,zk,bin,zzc,IntKind.signed,zi,zj,zl,zb,unary,ze,zd,za,zo,zr,zh,zf,zg,zp,Cp.isFull,isNil,zq,simprocAttr,-List.reduceReplicate,SQX,V.cells,x0J,xbq,x4L,zn (hd _ _),zn (hp _ _),e1,e2];repeat' ((first | refine x0G ?_ ?_ | refine x0u ?_ ?_ | refine x0v ?_ ?_)<;>(intro hb;simp only [SQ,zm,AOp.opds,step,Opd.get,zk,bin,zzc,IntKind.signed,zi,zj,zl,zb,unary,ze,zd,za,zo,zr,zh,zf,zg,zp,Cp.isFull,isNil,zq,simprocAttr,-List.reduceReplicate,SQX,V.cells,hb,x0J,xbq,x4L,zn (hd _ _),zn (hp _ _),e1,e2])))
 all_goals (simp_all;try omega)
def opF (o f g w7:Nat):Int :=
 if (o:Int)=55 then 1 else if (o:Int)=23 then 2 else if (o:Int)=111 then 3 else if (o:Int)=103 then x5S 4 f [0] else if (o:Int)=99 then x5S 5 f [0,1,4,5,6,7] else if (o:Int)=3 then x5S 11 f [0,1,2,3,4,5,6] else if (o:Int)=35 then x5S 18 f [0,1,2,3] else if (o:Int)=19 then xk0 (g/2) f else if (o:Int)=27 then xf5 f g else if (o:Int)=51 then (if g=0 then [35,37,38,39,40,41,43,44].getD f 0 else if g=32 then [36,0,0,0,0,42,0,0].getD f 0 else if g=1 then 50+f else 0) else if (o:Int)=59 then xk1 f g else if (o:Int)=47 then xkF f (g/4) else if (o:Int)=115 then x5S 64 w7 [0,8192] else if (o:Int)=15 then x5S 63 f [0] else 0
def opN (w:Nat):Int:=opF (F w 0 7) (F w 12 3) (F w 25 7) (w/128)
theorem xlm:zv 1 (List.replicate 1 [(.sc (.int .i64 (0)))]) [(0,(.sc (.int .i64 (0))))]=some (([0]:List Int).map nv):=rfl
theorem xll:zv 1 (List.replicate 6 [(.sc (.int .i64 (0)))]) [(0,(.sc (.int .i64 (0)))),(1,(.sc (.int .i64 (1)))),(2,(.sc (.int .i64 (4)))),(3,(.sc (.int .i64 (5)))),(4,(.sc (.int .i64 (6)))),(5,(.sc (.int .i64 (7))))]=some (([0,1,4,5,6,7]:List Int).map nv):=rfl
theorem xlk:zv 1 (List.replicate 7 [(.sc (.int .i64 (0)))]) [(0,(.sc (.int .i64 (0)))),(1,(.sc (.int .i64 (1)))),(2,(.sc (.int .i64 (2)))),(3,(.sc (.int .i64 (3)))),(4,(.sc (.int .i64 (4)))),(5,(.sc (.int .i64 (5)))),(6,(.sc (.int .i64 (6))))]=some (([0,1,2,3,4,5,6]:List Int).map nv):=rfl
theorem xlj:zv 1 (List.replicate 4 [(.sc (.int .i64 (0)))]) [(0,(.sc (.int .i64 (0)))),(1,(.sc (.int .i64 (1)))),(2,(.sc (.int .i64 (2)))),(3,(.sc (.int .i64 (3))))]=some (([0,1,2,3]:List Int).map nv):=rfl
theorem xn8 (w:Nat):F w 26 6=F w 25 7/2:=by
 unfold F;omega
theorem xh1 (w:Nat):F w 27 5=F w 25 7/4:=by
 unfold F;omega
set_option maxHeartbeats 1000000 in
theorem op_r {base:Nat} (w:Nat) (h:Heap) (hw:w<2 ^ 32):WpF S0 base x8I [U32 w] h fun v h'=>v=.sc (.int .i64 (opN w))∧h'=h:=by
 have hd0:∀ base h,WpF S0 base x1Y [U32 w,.sc (.int .i64 0),.sc (.int .i64 7)] h fun v h'=>v=V.int (F w 0 7)∧h'=h:=fun base h=>x41 w 0 7 h hw (by decide) (by decide)
 have hd1:∀ base h,WpF S0 base x1Y [U32 w,.sc (.int .i64 12),.sc (.int .i64 3)] h fun v h'=>v=V.int (F w 12 3)∧h'=h:=fun base h=>x41 w 12 3 h hw (by decide) (by decide)
 have hd2:∀ base h,WpF S0 base x1Y [U32 w,.sc (.int .i64 25),.sc (.int .i64 7)] h fun v h'=>v=V.int (F w 25 7)∧h'=h:=fun base h=>x41 w 25 7 h hw (by decide) (by decide)
 have f3:=F_lt w 12 3
 have f7:=F_lt w 25 7
 have p0:=fun base k (hk:0≤k) (hk2:k<1000) h=>x8v (base:=base) k (F w 12 3:Nat) [0] h hk hk2 (by decide)
 have p63:=fun base h=>p0 base 63 (by decide) (by decide) h
 have p4:=fun base h=>p0 base 4 (by decide) (by decide) h
 clear p0
 have p1:=fun base h=>x8v (base:=base) 5 (F w 12 3:Nat) [0,1,4,5,6,7] h (by decide) (by decide) (by decide)
 have p2:=fun base h=>x8v (base:=base) 11 (F w 12 3:Nat) [0,1,2,3,4,5,6] h (by decide) (by decide) (by decide)
 have p3:=fun base h=>x8v (base:=base) 18 (F w 12 3:Nat) [0,1,2,3] h (by decide) (by decide) (by decide)
 have q1:=fun base h=>xlB (base:=base) w (F w 12 3) h hw (by omega)
 have q2:=fun base h=>xjs (base:=base) (F w 12 3) (F w 25 7) h (by omega)
 have q3:=fun base h=>xjj (base:=base) (F w 12 3) (F w 25 7) h (by omega) (by omega)
 have q4:=fun base h=>xlI (base:=base) (F w 12 3) (F w 25 7) h (by omega)
 have q5:=fun base h=>xmS (base:=base) w (F w 12 3) h hw
 have q6:=fun base h=>xnc (base:=base) w h hw
 rw [xn8] at q1
 rw [xh1] at q5
 unfold opN opF
 clear f3 f7
 revert hd0
 generalize F w 0 7=o
 intro hd0
 first | refine zu (A:=x29) rfl rfl rfl rfl ?_ | refine zB (A:=x29) rfl rfl rfl rfl ?_
 simp only [x29,oD,cD,τ,φ,ι]
 (simp only [SQ,zm,AOp.opds,step,Opd.get,zk,bin,zzc,IntKind.signed,zi,zj,zl,zb,unary,ze,zd,za,zo,zr,zh,zf,zg,zp,Cp.isFull,isNil,zq,simprocAttr,-List.reduceReplicate,SQX,V.cells,x0J,xlm,xll,xlk,xlj,x4L,zn (hd0 _ _),zn (hd1 _ _),zn (hd2 _ _),zn (p63 _ _),zn (p4 _ _),zn (p1 _ _),zn (p2 _ _),zn (p3 _ _),zn (q1 _ _),zn (q2 _ _),zn (q3 _ _),zn (q4 _ _),zn (q5 _ _),zn (q6 _ _)];repeat' ((first | refine x0G ?_ ?_ | refine x0u ?_ ?_ | refine x0v ?_ ?_)<;>(intro hb;simp only [SQ,zm,AOp.opds,step,Opd.get,zk,bin,zzc,IntKind.signed,zi,zj,zl,zb,unary,ze,zd,za,zo,zr,zh,zf,zg,zp,Cp.isFull,isNil,zq,simprocAttr,-List.reduceReplicate,SQX,V.cells,hb,x0J,xlm,xll,xlk,xlj,x4L,zn (hd0 _ _),zn (hd1 _ _),zn (hd2 _ _),zn (p63 _ _),zn (p4 _ _),zn (p1 _ _),zn (p2 _ _),zn (p3 _ _),zn (q1 _ _),zn (q2 _ _),zn (q3 _ _),zn (q4 _ _),zn (q5 _ _),zn (q6 _ _)])))
 all_goals clear p63 p4 p1 p2 p3 q1 q2 q3 q4 q5 q6 hd0 hd1 hd2
 all_goals (simp_all;try omega)
end
section
def Sub (a m:Nat):Prop:=a &&& m=a
theorem Sub.sum {a b ma mb:Nat} (ha:Sub a ma) (hb:Sub b mb) (h:ma &&& mb=0):a ||| b=a+b:=xl9 ha hb h
theorem Sub.add {a b ma mb:Nat} (ha:Sub a ma) (hb:Sub b mb) (h:ma &&& mb=0):Sub (a+b) (ma ||| mb):=by
 rw [← ha.sum hb h]
 unfold Sub at *
 rw [Nat.and_or_distrib_left,Nat.and_or_distrib_right,Nat.and_or_distrib_right,ha,hb]
 apply Nat.eq_of_testBit_eq
 intro i
 have h1:=congrArg (fun x=>x.testBit i) ha
 have h2:=congrArg (fun x=>x.testBit i) hb
 simp only [Nat.testBit_and,Nat.testBit_or] at *
 revert h1 h2
 cases a.testBit i<;>cases b.testBit i<;>cases ma.testBit i<;>cases mb.testBit i<;>decide
theorem Sub.le {a m:Nat} (h:Sub a m):a≤m:=by
 unfold Sub at h
 rw [← h];exact Nat.and_le_right
theorem Sub.F (w a n b:Nat):Sub (F w a n*2 ^ b) ((2 ^ n-1)*2 ^ b):=xoG w a n b
theorem Sub.or64 {a b ma mb:Nat} (ha:Sub a ma) (hb:Sub b mb) (h:ma &&& mb=0) (h1:ma<2 ^ 62) (h2:mb<2 ^ 62):IntKind.i64.wrap (BitVec.ofInt IntKind.i64.bits (a:Int) ||| BitVec.ofInt IntKind.i64.bits (b:Int)).toNat=((a+b:Nat):Int):=by
 rw [xla (Nat.lt_of_le_of_lt ha.le h1) (Nat.lt_of_le_of_lt hb.le h2),ha.sum hb h]
def bJ (w:Nat):Nat:=F w 31 1*2 ^ 20+F w 21 10*2 ^ 1+F w 20 1*2 ^ 11+F w 12 8*2 ^ 12
def bB (w:Nat):Nat:=F w 31 1*2 ^ 12+F w 25 6*2 ^ 5+F w 8 4*2 ^ 1+F w 7 1*2 ^ 11
def bS (w:Nat):Nat:=F w 25 7*2 ^ 5+F w 7 5*2 ^ 0
def immW (w:Nat) (f:Int):Int :=
 if f=1 then S 20 (F w 12 20*2 ^ 0) else if f=2 then S 21 (bJ w) else if f=3 then S 12 (F w 20 12*2 ^ 0) else if f=4 then S 13 (bB w) else if f=5 then S 12 (bS w) else if f=7 then (F w 20 6*2 ^ 0:Nat) else if f=8 then (F w 20 5*2 ^ 0:Nat) else if f=9 then (F w 20 8*2 ^ 0:Nat) else 0
theorem x3F {base:Nat} (w a n u:Nat) (h:Heap) (hw:w<2 ^ 32) (hn:1≤n) (ha:a+n≤32) (hu:u+n≤40):WpF S0 base x0p [V.int a,V.int n,V.int u,.eptr [U32 w] 0] h fun v h'=>v=V.int ((F w a n*2 ^ u:Nat):Int)∧h'=h:=by
 first | refine zu (A:=x1I) rfl rfl rfl rfl ?_ | refine zB (A:=x1I) rfl rfl rfl rfl ?_
 simp only [x1I,oD,cD,τ,φ,ι]
 have h1:=xh2 w a n u 40 hu
 have e1:IntKind.i64.wrap (((F w a n:Nat):Int)*2 ^ min u IntKind.i64.bits)=((F w a n*2 ^ u:Nat):Int):=by
  rw [show min u IntKind.i64.bits=u from Nat.min_eq_left (by simp only [IntKind.bits];omega),show (2:Int) ^ u=((2 ^ u:Nat):Int) by simp,← Int.natCast_mul]
  exact x4I (by omega)
 simp only [SQ,SQB,zm,AOp.opds,step,Opd.get,zk,bin,zzc,IntKind.signed,zi,zj,zl,zb,unary,ze,zd,za,zo,zr,zh,zf,zg,zp,Cp.isFull,isNil,zq,simprocAttr,SQX,V.cells,zn (x41 w a n _ hw hn ha),e1,show ¬ (u:Int)<0 by omega]
set_option maxHeartbeats 2000000 in
theorem xmK {base:Nat} (w:Nat) (f:Int) (h:Heap) (hw:w<2 ^ 32):WpF S0 base x8J [U32 w,.sc (.int .i64 f)] h fun v h'=>v=.sc (.int .i64 (immW w f))∧h'=h:=by
 have g0:∀ base h,WpF S0 base x0p [.sc (.int .i64 12),.sc (.int .i64 20),.sc (.int .i64 0),.eptr [U32 w] 0] h fun v h'=>v=V.int ((F w 12 20*2 ^ 0:Nat):Int)∧h'=h:=fun base h=>x3F w 12 20 0 h hw (by decide) (by decide) (by decide)
 have g1:∀ base h,WpF S0 base x0p [.sc (.int .i64 31),.sc (.int .i64 1),.sc (.int .i64 20),.eptr [U32 w] 0] h fun v h'=>v=V.int ((F w 31 1*2 ^ 20:Nat):Int)∧h'=h:=fun base h=>x3F w 31 1 20 h hw (by decide) (by decide) (by decide)
 have g2:∀ base h,WpF S0 base x0p [.sc (.int .i64 21),.sc (.int .i64 10),.sc (.int .i64 1),.eptr [U32 w] 0] h fun v h'=>v=V.int ((F w 21 10*2 ^ 1:Nat):Int)∧h'=h:=fun base h=>x3F w 21 10 1 h hw (by decide) (by decide) (by decide)
 have g3:∀ base h,WpF S0 base x0p [.sc (.int .i64 20),.sc (.int .i64 1),.sc (.int .i64 11),.eptr [U32 w] 0] h fun v h'=>v=V.int ((F w 20 1*2 ^ 11:Nat):Int)∧h'=h:=fun base h=>x3F w 20 1 11 h hw (by decide) (by decide) (by decide)
 have g4:∀ base h,WpF S0 base x0p [.sc (.int .i64 12),.sc (.int .i64 8),.sc (.int .i64 12),.eptr [U32 w] 0] h fun v h'=>v=V.int ((F w 12 8*2 ^ 12:Nat):Int)∧h'=h:=fun base h=>x3F w 12 8 12 h hw (by decide) (by decide) (by decide)
 have g5:∀ base h,WpF S0 base x0p [.sc (.int .i64 20),.sc (.int .i64 12),.sc (.int .i64 0),.eptr [U32 w] 0] h fun v h'=>v=V.int ((F w 20 12*2 ^ 0:Nat):Int)∧h'=h:=fun base h=>x3F w 20 12 0 h hw (by decide) (by decide) (by decide)
 have g6:∀ base h,WpF S0 base x0p [.sc (.int .i64 31),.sc (.int .i64 1),.sc (.int .i64 12),.eptr [U32 w] 0] h fun v h'=>v=V.int ((F w 31 1*2 ^ 12:Nat):Int)∧h'=h:=fun base h=>x3F w 31 1 12 h hw (by decide) (by decide) (by decide)
 have g7:∀ base h,WpF S0 base x0p [.sc (.int .i64 25),.sc (.int .i64 6),.sc (.int .i64 5),.eptr [U32 w] 0] h fun v h'=>v=V.int ((F w 25 6*2 ^ 5:Nat):Int)∧h'=h:=fun base h=>x3F w 25 6 5 h hw (by decide) (by decide) (by decide)
 have g8:∀ base h,WpF S0 base x0p [.sc (.int .i64 8),.sc (.int .i64 4),.sc (.int .i64 1),.eptr [U32 w] 0] h fun v h'=>v=V.int ((F w 8 4*2 ^ 1:Nat):Int)∧h'=h:=fun base h=>x3F w 8 4 1 h hw (by decide) (by decide) (by decide)
 have g9:∀ base h,WpF S0 base x0p [.sc (.int .i64 7),.sc (.int .i64 1),.sc (.int .i64 11),.eptr [U32 w] 0] h fun v h'=>v=V.int ((F w 7 1*2 ^ 11:Nat):Int)∧h'=h:=fun base h=>x3F w 7 1 11 h hw (by decide) (by decide) (by decide)
 have g10:∀ base h,WpF S0 base x0p [.sc (.int .i64 25),.sc (.int .i64 7),.sc (.int .i64 5),.eptr [U32 w] 0] h fun v h'=>v=V.int ((F w 25 7*2 ^ 5:Nat):Int)∧h'=h:=fun base h=>x3F w 25 7 5 h hw (by decide) (by decide) (by decide)
 have g11:∀ base h,WpF S0 base x0p [.sc (.int .i64 7),.sc (.int .i64 5),.sc (.int .i64 0),.eptr [U32 w] 0] h fun v h'=>v=V.int ((F w 7 5*2 ^ 0:Nat):Int)∧h'=h:=fun base h=>x3F w 7 5 0 h hw (by decide) (by decide) (by decide)
 have g12:∀ base h,WpF S0 base x0p [.sc (.int .i64 20),.sc (.int .i64 6),.sc (.int .i64 0),.eptr [U32 w] 0] h fun v h'=>v=V.int ((F w 20 6*2 ^ 0:Nat):Int)∧h'=h:=fun base h=>x3F w 20 6 0 h hw (by decide) (by decide) (by decide)
 have g13:∀ base h,WpF S0 base x0p [.sc (.int .i64 20),.sc (.int .i64 5),.sc (.int .i64 0),.eptr [U32 w] 0] h fun v h'=>v=V.int ((F w 20 5*2 ^ 0:Nat):Int)∧h'=h:=fun base h=>x3F w 20 5 0 h hw (by decide) (by decide) (by decide)
 have g14:∀ base h,WpF S0 base x0p [.sc (.int .i64 20),.sc (.int .i64 8),.sc (.int .i64 0),.eptr [U32 w] 0] h fun v h'=>v=V.int ((F w 20 8*2 ^ 0:Nat):Int)∧h'=h:=fun base h=>x3F w 20 8 0 h hw (by decide) (by decide) (by decide)
 have oJ0:IntKind.i64.wrap (BitVec.ofInt IntKind.i64.bits ((F w 31 1*2 ^ 20:Nat):Int) ||| BitVec.ofInt IntKind.i64.bits ((F w 21 10*2 ^ 1:Nat):Int)).toNat=((F w 31 1*2 ^ 20+F w 21 10*2 ^ 1:Nat):Int):=Sub.or64 (Sub.F w 31 1 20) (Sub.F w 21 10 1) (by decide) (by decide) (by decide)
 have oJ1:IntKind.i64.wrap (BitVec.ofInt IntKind.i64.bits ((F w 31 1*2 ^ 20+F w 21 10*2 ^ 1:Nat):Int) ||| BitVec.ofInt IntKind.i64.bits ((F w 20 1*2 ^ 11:Nat):Int)).toNat=((F w 31 1*2 ^ 20+F w 21 10*2 ^ 1+F w 20 1*2 ^ 11:Nat):Int):=Sub.or64 (Sub.add (Sub.F w 31 1 20) (Sub.F w 21 10 1) (by decide)) (Sub.F w 20 1 11) (by decide) (by decide) (by decide)
 have oJ2:IntKind.i64.wrap (BitVec.ofInt IntKind.i64.bits ((F w 31 1*2 ^ 20+F w 21 10*2 ^ 1+F w 20 1*2 ^ 11:Nat):Int) ||| BitVec.ofInt IntKind.i64.bits ((F w 12 8*2 ^ 12:Nat):Int)).toNat=((F w 31 1*2 ^ 20+F w 21 10*2 ^ 1+F w 20 1*2 ^ 11+F w 12 8*2 ^ 12:Nat):Int):=Sub.or64 (Sub.add (Sub.add (Sub.F w 31 1 20) (Sub.F w 21 10 1) (by decide)) (Sub.F w 20 1 11) (by decide)) (Sub.F w 12 8 12) (by decide) (by decide) (by decide)
 have soJ:∀ base h,WpF S0 base x3K [V.int ((F w 31 1*2 ^ 20+F w 21 10*2 ^ 1+F w 20 1*2 ^ 11+F w 12 8*2 ^ 12:Nat):Int),.sc (.int .i64 21)] h fun r h'=>r=.sc (.int .i64 (S 21 (bJ w)))∧h'=h:=fun base h=>x6i (F w 31 1*2 ^ 20+F w 21 10*2 ^ 1+F w 20 1*2 ^ 11+F w 12 8*2 ^ 12) 21 h (Nat.lt_of_le_of_lt (Sub.le (Sub.add (Sub.add (Sub.add (Sub.F w 31 1 20) (Sub.F w 21 10 1) (by decide)) (Sub.F w 20 1 11) (by decide)) (Sub.F w 12 8 12) (by decide))) (by decide)) (by decide)
 have oB0:IntKind.i64.wrap (BitVec.ofInt IntKind.i64.bits ((F w 31 1*2 ^ 12:Nat):Int) ||| BitVec.ofInt IntKind.i64.bits ((F w 25 6*2 ^ 5:Nat):Int)).toNat=((F w 31 1*2 ^ 12+F w 25 6*2 ^ 5:Nat):Int):=Sub.or64 (Sub.F w 31 1 12) (Sub.F w 25 6 5) (by decide) (by decide) (by decide)
 have oB1:IntKind.i64.wrap (BitVec.ofInt IntKind.i64.bits ((F w 31 1*2 ^ 12+F w 25 6*2 ^ 5:Nat):Int) ||| BitVec.ofInt IntKind.i64.bits ((F w 8 4*2 ^ 1:Nat):Int)).toNat=((F w 31 1*2 ^ 12+F w 25 6*2 ^ 5+F w 8 4*2 ^ 1:Nat):Int):=Sub.or64 (Sub.add (Sub.F w 31 1 12) (Sub.F w 25 6 5) (by decide)) (Sub.F w 8 4 1) (by decide) (by decide) (by decide)
 have oB2:IntKind.i64.wrap (BitVec.ofInt IntKind.i64.bits ((F w 31 1*2 ^ 12+F w 25 6*2 ^ 5+F w 8 4*2 ^ 1:Nat):Int) ||| BitVec.ofInt IntKind.i64.bits ((F w 7 1*2 ^ 11:Nat):Int)).toNat=((F w 31 1*2 ^ 12+F w 25 6*2 ^ 5+F w 8 4*2 ^ 1+F w 7 1*2 ^ 11:Nat):Int):=Sub.or64 (Sub.add (Sub.add (Sub.F w 31 1 12) (Sub.F w 25 6 5) (by decide)) (Sub.F w 8 4 1) (by decide)) (Sub.F w 7 1 11) (by decide) (by decide) (by decide)
 have soB:∀ base h,WpF S0 base x3K [V.int ((F w 31 1*2 ^ 12+F w 25 6*2 ^ 5+F w 8 4*2 ^ 1+F w 7 1*2 ^ 11:Nat):Int),.sc (.int .i64 13)] h fun r h'=>r=.sc (.int .i64 (S 13 (bB w)))∧h'=h:=fun base h=>x6i (F w 31 1*2 ^ 12+F w 25 6*2 ^ 5+F w 8 4*2 ^ 1+F w 7 1*2 ^ 11) 13 h (Nat.lt_of_le_of_lt (Sub.le (Sub.add (Sub.add (Sub.add (Sub.F w 31 1 12) (Sub.F w 25 6 5) (by decide)) (Sub.F w 8 4 1) (by decide)) (Sub.F w 7 1 11) (by decide))) (by decide)) (by decide)
 have oS0:IntKind.i64.wrap (BitVec.ofInt IntKind.i64.bits ((F w 25 7*2 ^ 5:Nat):Int) ||| BitVec.ofInt IntKind.i64.bits ((F w 7 5*2 ^ 0:Nat):Int)).toNat=((F w 25 7*2 ^ 5+F w 7 5*2 ^ 0:Nat):Int):=Sub.or64 (Sub.F w 25 7 5) (Sub.F w 7 5 0) (by decide) (by decide) (by decide)
 have soS:∀ base h,WpF S0 base x3K [V.int ((F w 25 7*2 ^ 5+F w 7 5*2 ^ 0:Nat):Int),.sc (.int .i64 12)] h fun r h'=>r=.sc (.int .i64 (S 12 (bS w)))∧h'=h:=fun base h=>x6i (F w 25 7*2 ^ 5+F w 7 5*2 ^ 0) 12 h (Nat.lt_of_le_of_lt (Sub.le (Sub.add (Sub.F w 25 7 5) (Sub.F w 7 5 0) (by decide))) (by decide)) (by decide)
 have sU:∀ base h,WpF S0 base x3K [V.int ((F w 12 20*2 ^ 0:Nat):Int),.sc (.int .i64 20)] h fun r h'=>r=.sc (.int .i64 (S 20 (F w 12 20*2 ^ 0)))∧h'=h:=fun base h=>x6i (F w 12 20*2 ^ 0) 20 h (xh2 w 12 20 0 32 (by decide)) (by decide)
 have sI:∀ base h,WpF S0 base x3K [V.int ((F w 20 12*2 ^ 0:Nat):Int),.sc (.int .i64 12)] h fun r h'=>r=.sc (.int .i64 (S 12 (F w 20 12*2 ^ 0)))∧h'=h:=fun base h=>x6i (F w 20 12*2 ^ 0) 12 h (xh2 w 20 12 0 32 (by decide)) (by decide)
 unfold immW
 first | refine zu (A:=x2a) rfl rfl rfl rfl ?_ | refine zB (A:=x2a) rfl rfl rfl rfl ?_
 simp only [x2a,oD,cD,τ,φ,ι]
 (simp only [SQ,zm,AOp.opds,step,Opd.get,zk,bin,zzc,IntKind.signed,zi,zj,zl,zb,unary,ze,zd,za,zo,zr,zh,zf,zg,zp,Cp.isFull,isNil,zq,simprocAttr,SQX,V.cells,zn (g0 _ _),zn (g1 _ _),zn (g2 _ _),zn (g3 _ _),zn (g4 _ _),zn (g5 _ _),zn (g6 _ _),zn (g7 _ _),zn (g8 _ _),zn (g9 _ _),zn (g10 _ _),zn (g11 _ _),zn (g12 _ _),zn (g13 _ _),zn (g14 _ _),oJ0,oJ1,oJ2,zn (soJ _ _),oB0,oB1,oB2,zn (soB _ _),oS0,zn (soS _ _),zn (sU _ _),zn (sI _ _)];repeat' ((first | refine x0G ?_ ?_ | refine x0u ?_ ?_ | refine x0v ?_ ?_)<;>(intro hb;simp only [SQ,zm,AOp.opds,step,Opd.get,zk,bin,zzc,IntKind.signed,zi,zj,zl,zb,unary,ze,zd,za,zo,zr,zh,zf,zg,zp,Cp.isFull,isNil,zq,simprocAttr,SQX,V.cells,hb,zn (g0 _ _),zn (g1 _ _),zn (g2 _ _),zn (g3 _ _),zn (g4 _ _),zn (g5 _ _),zn (g6 _ _),zn (g7 _ _),zn (g8 _ _),zn (g9 _ _),zn (g10 _ _),zn (g11 _ _),zn (g12 _ _),zn (g13 _ _),zn (g14 _ _),oJ0,oJ1,oJ2,zn (soJ _ _),oB0,oB1,oB2,zn (soB _ _),oS0,zn (soS _ _),zn (sU _ _),zn (sI _ _)])))
 all_goals clear g0 g1 g2 g3 g4 g5 g6 g7 g8 g9 g10 g11 g12 g13 g14 oJ0 oJ1 oJ2 oB0 oB1 oB2 oS0 soJ soB soS sU sI
 all_goals simp_all
end
section

end
section
theorem x8C {base b:Nat} {cs:List V} (h:base≤b):x0H base b cs=true:=by simp [x0H,h]
theorem x2O {base:Nat} {hh:Heap} {t:TypeId} {cs ds:List V} {n:Nat} (h1:ds.length=n) (h2:cs.length=n) (h3:ds.all zm=true) (h4:base≤hh.length):x0y base (hh++[.box t cs]) n (.ptr hh.length 0) (.agg ds)=some (hh++[.box t ds]):=by
 unfold x0y
 rw [if_pos ⟨h1,h3⟩]
 simp only [x2J,x7u]
 rw [if_pos ⟨by omega,x8C h4⟩,show (V.agg ds).cells=ds from rfl,xa3 (by omega)]
theorem xfg {cs:List V} {k:Nat} {x:V} (h:k<cs.length):x0E cs k [x]=cs.set k x:=by
 simp only [x0E,List.length_cons,List.length_nil,Nat.zero_add]
 rw [List.set_eq_take_append_cons_drop,if_pos h,List.append_assoc];rfl
theorem x9V {base:Nat} {hh:Heap} {t:TypeId} {cs:List V} {k:Nat} {x:Value} (h2:k<cs.length) (h4:base≤hh.length):x0y base (hh++[.box t cs]) 1 (.ptr hh.length k) (.sc x)=some (hh++[.box t (cs.set k (.sc x))]):=by
 unfold x0y
 rw [if_pos ⟨rfl,rfl⟩]
 simp only [x2J,x7u]
 rw [if_pos ⟨by omega,x8C h4⟩,show (V.sc x).cells=[.sc x] from rfl,xfg h2]
theorem x66 {hh:Heap} {t:TypeId} {cs:List V} {n:Nat} (h:cs.length=n):zl (hh++[.box t cs]) (some n) (.ptr hh.length 0)=some (.agg cs):=by
 simp only [zl,x2J,zb]
 rw [if_pos (by omega),List.drop_zero,List.take_of_length_le (by omega)]
theorem x7t {base:Nat} {hh:Heap} {t:TypeId} {y:Obj} {cs ds:List V} {n:Nat} (h1:ds.length=n) (h2:cs.length=n) (h3:ds.all zm=true) (h4:base≤hh.length):x0y base (hh++[.box t cs]++[y]) n (.ptr hh.length 0) (.agg ds)=some (hh++[.box t ds]++[y]):=by
 unfold x0y
 have e:(hh++[.box t cs]++[y])[hh.length]?=some (.box t cs):=by simp
 have e2:∀ z:Obj,(hh++[Obj.box t cs]++[y]).set hh.length z=hh++[z]++[y]:=fun z=>by simp
 rw [if_pos ⟨h1,h3⟩]
 simp only [e,e2]
 rw [if_pos ⟨by omega,x8C h4⟩,show (V.agg ds).cells=ds from rfl,xa3 (by omega)]
theorem x6S {hh:Heap} {t:TypeId} {y:Obj} {cs:List V} {n:Nat} (h:cs.length=n):zl (hh++[.box t cs]++[y]) (some n) (.ptr hh.length 0)=some (.agg cs):=by
 have e:(hh++[.box t cs]++[y])[hh.length]?=some (.box t cs):=by simp
 simp only [zl,e,zb]
 rw [if_pos (by omega),List.drop_zero,List.take_of_length_le (by omega)]
theorem x9p (h l:Heap):(h.length≤(h++l).length)=True:=by simp
theorem x51 (h:Heap) (x y:Obj):(h++[x]++[y]).take h.length=h:=by simp
def prd (w:Nat) (f:Int):Int:=if fRd f then (F w 7 5:Nat) else 0
def pA (w:Nat) (f:Int):Int:=if fA f then (F w 15 5:Nat) else 0
def pB (w:Nat) (f:Int):Int:=if fB f then (F w 20 5:Nat) else 0
def pAq (w:Nat) (f:Int):Bool:=fO f&&decide (((F w 26 1:Nat):Int)=1)
def pRl (w:Nat) (f:Int):Bool:=fO f&&decide (((F w 25 1:Nat):Int)=1)
abbrev x9l (w:Nat) (op:Int):V:=ins op (prd w (x0a op)) (pA w (x0a op)) (pB w (x0a op)) (immW w (x0a op)) (pAq w (x0a op)) (pRl w (x0a op))
set_option maxHeartbeats 2000000 in
theorem xjE {base:Nat} (w:Nat) (op:Int) (h:Heap) (hw:w<2 ^ 32):WpF S0 base xbY [U32 w,.sc (.int .i64 op)] h fun v h'=>v=x9l w op∧h'=h:=by
 have hF:=fun base h=>x4R (base:=base) op h
 have hi:=fun base f h=>xmK (base:=base) w f h hw
 have d1:∀ base h,WpF S0 base x1Y [U32 w,.sc (.int .i64 7),.sc (.int .i64 5)] h fun v h'=>v=V.int (F w 7 5)∧h'=h:=fun base h=>x41 w 7 5 h hw (by decide) (by decide)
 have d2:∀ base h,WpF S0 base x1Y [U32 w,.sc (.int .i64 15),.sc (.int .i64 5)] h fun v h'=>v=V.int (F w 15 5)∧h'=h:=fun base h=>x41 w 15 5 h hw (by decide) (by decide)
 have d3:∀ base h,WpF S0 base x1Y [U32 w,.sc (.int .i64 20),.sc (.int .i64 5)] h fun v h'=>v=V.int (F w 20 5)∧h'=h:=fun base h=>x41 w 20 5 h hw (by decide) (by decide)
 have d4:∀ base h,WpF S0 base x1Y [U32 w,.sc (.int .i64 26),.sc (.int .i64 1)] h fun v h'=>v=V.int (F w 26 1)∧h'=h:=fun base h=>x41 w 26 1 h hw (by decide) (by decide)
 have d5:∀ base h,WpF S0 base x1Y [U32 w,.sc (.int .i64 25),.sc (.int .i64 1)] h fun v h'=>v=V.int (F w 25 1)∧h'=h:=fun base h=>x41 w 25 1 h hw (by decide) (by decide)
 unfold x9l prd pA pB pAq pRl
 generalize x0a op=f at *
 have em:∀ i:Int,x0q [.sc (.int .i64 0),.sc (.int .i64 0),.sc (.int .i64 0),.sc (.int .i64 0),.sc (.int .i64 0),.sc (.bool false),.sc (.bool false)] [(0,1,.sc (.int .i64 op)),(4,1,.sc (.int .i64 i))]=some [.sc (.int .i64 op),.sc (.int .i64 0),.sc (.int .i64 0),.sc (.int .i64 0),.sc (.int .i64 i),.sc (.bool false),.sc (.bool false)]:=fun i=>rfl
 first | refine zu (A:=x3y) rfl rfl rfl rfl ?_ | refine zB (A:=x3y) rfl rfl rfl rfl ?_
 simp only [x3y,oD,cD,τ,φ,ι]
 (simp only [SQ,zm,AOp.opds,step,Opd.get,zk,bin,zzc,IntKind.signed,zi,zj,zb,unary,ze,zd,za,zo,zr,zh,zf,zg,zp,Cp.isFull,isNil,zq,simprocAttr,SQX,V.cells,zn (hF _ _),zn (hi _ _ _),zn (d1 _ _),zn (d2 _ _),zn (d3 _ _),zn (d4 _ _),zn (d5 _ _),x0g,em,x2O,x9V,x66,x7t,x6S,x9p,x51,List.set_cons_zero,List.set_cons_succ];repeat' ((first | refine x0G ?_ ?_ | refine x0u ?_ ?_ | refine x0v ?_ ?_)<;>(intro hb;simp only [SQ,zm,AOp.opds,step,Opd.get,zk,bin,zzc,IntKind.signed,zi,zj,zb,unary,ze,zd,za,zo,zr,zh,zf,zg,zp,Cp.isFull,isNil,zq,simprocAttr,SQX,V.cells,hb,zn (hF _ _),zn (hi _ _ _),zn (d1 _ _),zn (d2 _ _),zn (d3 _ _),zn (d4 _ _),zn (d5 _ _),x0g,em,x2O,x9V,x66,x7t,x6S,x9p,x51,List.set_cons_zero,List.set_cons_succ])))
 all_goals clear hF hi d1 d2 d3 d4 d5
 all_goals simp_all [fRd,fA,fB,fO]
end
section
def x61:List Nat:=[55,23,111,103,99,4195,16483,20579,24675,28771,3,4099,8195,12291,16387,20483,24579,35,4131,8227,12323,19,8211,12307,16403,24595,28691,4115,20499,1073762323,27,4123,20507,1073762331,51,1073741875,4147,8243,12339,16435,20531,1073762355,24627,28723,59,1073741883,4155,20539,1073762363,33554483,33558579,33562675,33566771,33570867,33574963,33579059,33583155,33554491,33570875,33574971,33579067,33583163,15,115,1048691,268443695,402661423,134225967,8239,536879151,1610620975,1073750063,2147491887,2684362799,3221233711,3758104623]
def x0k (op:Nat):Nat:=if 77≤op then x61.getD (op-12) 0+4096 else x61.getD (op-1) 0
abbrev arU (l:List Nat):List V:=l.map U32
set_option maxRecDepth 4000 in
theorem xh6:x0q [(.sc (.int .u32 (0))),(.sc (.int .u32 (0))),(.sc (.int .u32 (0))),(.sc (.int .u32 (0))),(.sc (.int .u32 (0))),(.sc (.int .u32 (0))),(.sc (.int .u32 (0))),(.sc (.int .u32 (0))),(.sc (.int .u32 (0))),(.sc (.int .u32 (0))),(.sc (.int .u32 (0))),(.sc (.int .u32 (0))),(.sc (.int .u32 (0))),(.sc (.int .u32 (0))),(.sc (.int .u32 (0))),(.sc (.int .u32 (0))),(.sc (.int .u32 (0))),(.sc (.int .u32 (0))),(.sc (.int .u32 (0))),(.sc (.int .u32 (0))),(.sc (.int .u32 (0))),(.sc (.int .u32 (0))),(.sc (.int .u32 (0))),(.sc (.int .u32 (0))),(.sc (.int .u32 (0))),(.sc (.int .u32 (0))),(.sc (.int .u32 (0))),(.sc (.int .u32 (0))),(.sc (.int .u32 (0))),(.sc (.int .u32 (0))),(.sc (.int .u32 (0))),(.sc (.int .u32 (0))),(.sc (.int .u32 (0))),(.sc (.int .u32 (0))),(.sc (.int .u32 (0))),(.sc (.int .u32 (0))),(.sc (.int .u32 (0))),(.sc (.int .u32 (0))),(.sc (.int .u32 (0))),(.sc (.int .u32 (0))),(.sc (.int .u32 (0))),(.sc (.int .u32 (0))),(.sc (.int .u32 (0))),(.sc (.int .u32 (0))),(.sc (.int .u32 (0))),(.sc (.int .u32 (0))),(.sc (.int .u32 (0))),(.sc (.int .u32 (0))),(.sc (.int .u32 (0))),(.sc (.int .u32 (0))),(.sc (.int .u32 (0))),(.sc (.int .u32 (0))),(.sc (.int .u32 (0))),(.sc (.int .u32 (0))),(.sc (.int .u32 (0))),(.sc (.int .u32 (0))),(.sc (.int .u32 (0))),(.sc (.int .u32 (0))),(.sc (.int .u32 (0))),(.sc (.int .u32 (0))),(.sc (.int .u32 (0))),(.sc (.int .u32 (0))),(.sc (.int .u32 (0))),(.sc (.int .u32 (0))),(.sc (.int .u32 (0))),(.sc (.int .u32 (0))),(.sc (.int .u32 (0))),(.sc (.int .u32 (0))),(.sc (.int .u32 (0))),(.sc (.int .u32 (0))),(.sc (.int .u32 (0))),(.sc (.int .u32 (0))),(.sc (.int .u32 (0))),(.sc (.int .u32 (0))),(.sc (.int .u32 (0))),(.sc (.int .u32 (0)))] [(0,1,((.sc (.int .u32 (55))))),(1,1,((.sc (.int .u32 (23))))),(2,1,((.sc (.int .u32 (111))))),(3,1,((.sc (.int .u32 (103))))),(4,1,((.sc (.int .u32 (99))))),(5,1,((.sc (.int .u32 (4195))))),(6,1,((.sc (.int .u32 (16483))))),(7,1,((.sc (.int .u32 (20579))))),(8,1,((.sc (.int .u32 (24675))))),(9,1,((.sc (.int .u32 (28771))))),(10,1,((.sc (.int .u32 (3))))),(11,1,((.sc (.int .u32 (4099))))),(12,1,((.sc (.int .u32 (8195))))),(13,1,((.sc (.int .u32 (12291))))),(14,1,((.sc (.int .u32 (16387))))),(15,1,((.sc (.int .u32 (20483))))),(16,1,((.sc (.int .u32 (24579))))),(17,1,((.sc (.int .u32 (35))))),(18,1,((.sc (.int .u32 (4131))))),(19,1,((.sc (.int .u32 (8227))))),(20,1,((.sc (.int .u32 (12323))))),(21,1,((.sc (.int .u32 (19))))),(22,1,((.sc (.int .u32 (8211))))),(23,1,((.sc (.int .u32 (12307))))),(24,1,((.sc (.int .u32 (16403))))),(25,1,((.sc (.int .u32 (24595))))),(26,1,((.sc (.int .u32 (28691))))),(27,1,((.sc (.int .u32 (4115))))),(28,1,((.sc (.int .u32 (20499))))),(29,1,((.sc (.int .u32 (1073762323))))),(30,1,((.sc (.int .u32 (27))))),(31,1,((.sc (.int .u32 (4123))))),(32,1,((.sc (.int .u32 (20507))))),(33,1,((.sc (.int .u32 (1073762331))))),(34,1,((.sc (.int .u32 (51))))),(35,1,((.sc (.int .u32 (1073741875))))),(36,1,((.sc (.int .u32 (4147))))),(37,1,((.sc (.int .u32 (8243))))),(38,1,((.sc (.int .u32 (12339))))),(39,1,((.sc (.int .u32 (16435))))),(40,1,((.sc (.int .u32 (20531))))),(41,1,((.sc (.int .u32 (1073762355))))),(42,1,((.sc (.int .u32 (24627))))),(43,1,((.sc (.int .u32 (28723))))),(44,1,((.sc (.int .u32 (59))))),(45,1,((.sc (.int .u32 (1073741883))))),(46,1,((.sc (.int .u32 (4155))))),(47,1,((.sc (.int .u32 (20539))))),(48,1,((.sc (.int .u32 (1073762363))))),(49,1,((.sc (.int .u32 (33554483))))),(50,1,((.sc (.int .u32 (33558579))))),(51,1,((.sc (.int .u32 (33562675))))),(52,1,((.sc (.int .u32 (33566771))))),(53,1,((.sc (.int .u32 (33570867))))),(54,1,((.sc (.int .u32 (33574963))))),(55,1,((.sc (.int .u32 (33579059))))),(56,1,((.sc (.int .u32 (33583155))))),(57,1,((.sc (.int .u32 (33554491))))),(58,1,((.sc (.int .u32 (33570875))))),(59,1,((.sc (.int .u32 (33574971))))),(60,1,((.sc (.int .u32 (33579067))))),(61,1,((.sc (.int .u32 (33583163))))),(62,1,((.sc (.int .u32 (15))))),(63,1,((.sc (.int .u32 (115))))),(64,1,((.sc (.int .u32 (1048691))))),(65,1,((.sc (.int .u32 (268443695))))),(66,1,((.sc (.int .u32 (402661423))))),(67,1,((.sc (.int .u32 (134225967))))),(68,1,((.sc (.int .u32 (8239))))),(69,1,((.sc (.int .u32 (536879151))))),(70,1,((.sc (.int .u32 (1610620975))))),(71,1,((.sc (.int .u32 (1073750063))))),(72,1,((.sc (.int .u32 (2147491887))))),(73,1,((.sc (.int .u32 (2684362799))))),(74,1,((.sc (.int .u32 (3221233711))))),(75,1,((.sc (.int .u32 (3758104623)))))]=some (arU x61):=by kernel_rfl
theorem FrzU {h:Heap} {b:Nat} (l:List Nat) {Q:List V→Prop}:FrzL h b (arU l) Q↔Q (arU l):=by
 induction l generalizing Q with
 | nil=>exact xbu
 | cons x r ih =>
  show FrzL h b (U32 x::arU r) Q↔_
  rw [x9L,xgZ,ih];rfl
theorem xaq:(arU x61).all zm=true:=rfl
theorem xbr {h:Heap} {t:TypeId} {l:List V} {i:Nat} (hi:i<l.length):zl (h++[.row t 1 0 (l.map fun x=>[x])]) none (.rptr h.length 0 0 i)=some l[i]:=by
 have e0:(l.map fun x=>[x])[0]?=some [l[0]]:=by
  rw [List.getElem?_map,List.getElem?_eq_getElem (by omega)];rfl
 simp only [zl,rowAt,x2J,if_true,e0,Option.bind_some,Option.getD_none,List.length_cons,List.length_nil,xba,zb]
 by_cases h0:i=0
 ·subst h0
  rw [if_pos (Nat.le_refl _)];rfl
 ·rw [if_neg (by omega),List.getElem?_eq_getElem hi]
theorem xeB {h:Heap} {t:TypeId} {l:List V} {n:Nat} (hl:l.length=n) (hn:1<n):zl (h++[.row t 1 0 (l.map fun x=>[x])]) (some n) (.rptr h.length 0 0 0)=some (.agg l):=by
 have e0:(l.map fun x=>[x])[0]?=some [l[0]]:=by
  rw [List.getElem?_map,List.getElem?_eq_getElem (by omega)];rfl
 simp only [zl,rowAt,x2J,if_true,e0,Option.bind_some,Option.getD_some,List.length_cons,List.length_nil,xba,zb,List.drop_zero]
 rw [if_neg (by omega),if_pos (by omega),List.take_of_length_le (by omega)]
theorem x1T {h:Heap} {x:Obj}:(h++[x]).take h.length=h:=by simp
set_option maxHeartbeats 1000000 in
theorem xh5 {base:Nat} (h:Heap):WpF S0 base x5U [] h fun v h'=>v=.agg (arU x61)∧h'=h:=by
 obtain ⟨R,es,el⟩:∃ R,(∀ zs:List V,zs.length=76→x0y h.length (h++[.row 90 1 0 (x3R 1 zs)]) 76 (.rptr h.length 0 0 0) (.agg (arU x61))=some (h++[.row 90 1 0 R]))∧zl (h++[.row 90 1 0 R]) (some 76) (.rptr h.length 0 0 0)=some (.agg (arU x61)):=⟨_,fun zs hz=>x94 (n:=76) (l:=arU x61) hz rfl (by decide) xaq,xeB (l:=arU x61) rfl (by decide)⟩
 first | refine zu (A:=x0Y) rfl rfl rfl rfl ?_ | refine zB (A:=x0Y) rfl rfl rfl rfl ?_
 simp only [x0Y,oD,cD,τ,φ,ι]
 simp only [SQ,SQB,zm,AOp.opds,step,Opd.get,zk,bin,zzc,IntKind.signed,zi,zj,zb,unary,ze,zd,za,zo,zr,zh,zf,zg,zp,Cp.isFull,isNil,zq,simprocAttr,-List.reduceReplicate,SQX,V.cells,x0g,xh6,es,el,x1T,FrzU]
set_option maxHeartbeats 1000000 in
theorem xji {base:Nat} (op:Nat) (h:Heap) (h1:1≤op) (h2:op<88):WpF S0 base x69 [V.int op] h fun v h'=>v=U32 (x0k op)∧h'=h:=by
 have hw:=fun base h=>xh5 (base:=base) h
 have hll:(arU x61).length=76:=rfl
 obtain ⟨R,es,el⟩:∃ R,(∀ zs:List V,zs.length=76→x0y h.length (h++[.row 90 1 0 (x3R 1 zs)]) 76 (.rptr h.length 0 0 0) (.agg (arU x61))=some (h++[.row 90 1 0 R]))∧∀ k:Nat,k<76→zl (h++[.row 90 1 0 R]) none (.rptr h.length 0 0 k)=some (U32 (x61.getD k 0)):=⟨_,fun zs hz=>x94 (n:=76) (l:=arU x61) hz rfl (by decide) xaq,fun k hk=>by
  rw [xbr (l:=arU x61) (by omega),List.getElem_map,List.getD_eq_getElem?_getD,List.getElem?_eq_getElem (by rw [List.length_map] at hll;omega)];rfl⟩
 have hb:∀ k:Nat,k<76→x61.getD k 0<4294967296-4096:=by decide
 first | refine zu (A:=x1a) rfl rfl rfl rfl ?_ | refine zB (A:=x1a) rfl rfl rfl rfl ?_
 simp only [x1a,oD,cD,τ,φ,ι]
 by_cases hc:77≤op
 ·have e1:IntKind.i64.wrap ((op:Int)-12)=((op-12:Nat):Int):=by rw [x08 (by omega) (by omega)];omega
  have e2:IntKind.u32.wrap (((x61.getD (op-12) 0:Nat):Int)+4096)=((x0k op:Nat):Int):=by
   have:=hb (op-12) (by omega)
   unfold x0k
   rw [if_pos hc,x4z (by omega) (by omega)];omega
  simp only [SQ,SQB,zm,AOp.opds,step,Opd.get,zk,bin,zzc,IntKind.signed,zi,zj,zb,unary,ze,zd,za,zo,zr,zh,zf,zg,zp,Cp.isFull,isNil,zq,simprocAttr,-List.reduceReplicate,SQX,V.cells,zn (hw _ _),es,show (77:Int)≤op by omega,e1,el (op-12) (by omega),Nat.mul_one,show op-12<76 by omega,show ((op-12:Nat):Int)<76 by omega,e2,x1T]
 ·have e1:IntKind.i64.wrap ((op:Int)-1)=((op-1:Nat):Int):=by rw [x08 (by omega) (by omega)];omega
  have e2:x61.getD (op-1) 0=x0k op:=by unfold x0k;rw [if_neg hc]
  simp only [SQ,SQB,zm,AOp.opds,step,Opd.get,zk,bin,zzc,IntKind.signed,zi,zj,zb,unary,ze,zd,za,zo,zr,zh,zf,zg,zp,Cp.isFull,isNil,zq,simprocAttr,-List.reduceReplicate,SQX,V.cells,zn (hw _ _),es,show ¬ (77:Int)≤op by omega,e1,el (op-1) (by omega),Nat.mul_one,show op-1<76 by omega,show ((op-1:Nat):Int)<76 by omega,e2,x1T]
end
end Go.Am
