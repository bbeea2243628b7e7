/- The abstract machine and what is proved in it, part 4. -/
import Derived.Test.YtaflpfhmokcimaaGreatDoorAm3
import Derived.Lib.MakeNoZero
import Derived.Laws.Externs
import Derived.Lib.BytesEntry
set_option linter.unusedVariables false
set_option linter.unusedSimpArgs false
namespace Go.Am
section
open Go.RowKit (Below)
section
variable {P:Program} {gl:Nat→Option (List V)} {call:x3T} {base n nt:Nat}
theorem x1Q.plain (y:AOper):x1Q y y.plain:=by
 refine ⟨rfl,rfl,fun call base en h r hs=>?_⟩
 obtain ⟨dst,op,g,off⟩:=y
 cases op
 case callK f args ts =>
  obtain ⟨ho,he⟩:=x1L hs
  refine x3Z ?_ ?_
  ·simp only [x5c,AOper.plain,AOp.plain,List.all_eq_true] at ho ⊢
   intro t ht
   have:=ho t ht
   revert this
   cases x1F (en t) with
   | none=>exact id
   | some b =>
    simp only [List.all_eq_true]
    intro hall x hx
    refine hall x ?_
    simp only [AOp.opds,List.mem_cons,List.mem_append] at hx ⊢
    rcases hx with hx | hx
    ·exact .inl hx
    ·exact .inr (.inl hx)
  ·simp only [evOp] at he
   simp only [AOper.plain,AOp.plain,evOp]
   cases e1:zr (f.get en) (zh en args) with
   | none=>rw [e1] at he;simp at he
   | some p =>
    obtain ⟨k,vs⟩:=p
    rw [e1] at he
    simp only at he ⊢
    split at he
    ·rename_i v h' e2
     split at he
     ·rw [e2];exact he
     ·simp at he
    ·simp at he
 all_goals exact hs
theorem xjV {en:Env} {h h':Heap} {f:Opd} {args:List Opd} {ts:List Nat} {v:V} (hs:evOp call base en h (.callK f args ts)=some (v,h')):∀ t∈ts,∀ b,x1F (en t)=some b→h'[b]?=h[b]?:=by
 simp only [evOp] at hs
 split at hs
 ·split at hs
  ·split at hs
   ·rename_i hk
    simp only [Option.some.injEq,Prod.mk.injEq] at hs
    obtain ⟨rfl,rfl⟩:=hs
    intro t ht b hb
    have:=List.all_eq_true.1 hk t ht
    rw [hb] at this
    exact ((x7m _ _).1 this).symm
   ·simp at hs
  ·simp at hs
 ·simp at hs
theorem x8R {t:Nat}:∀ {p:List AOper} {en en1:Env} {h h1:Heap},(∀ z∈p,z.dst≠some t)→x1i call base p en h=some (en1,h1)→en1 t=en t
 | [],en,en1,h,h1,_,hs=>by
  simp only [x1i,Option.some.injEq,Prod.mk.injEq] at hs
  rw [hs.1]
 | x::p,en,en1,h,h1,hz,hs=>by
  rw [x0i,Option.bind_eq_some_iff] at hs
  obtain ⟨⟨v,h2⟩,_,e2⟩:=hs
  rw [x8R (fun z hz'=>hz z (by simp [hz'])) e2]
  exact Env.put_other (hz x (by simp))
theorem x8B {y:AOper}:∀ t∈y.plain.slots,t∈y.slots:=by
 obtain ⟨dst,op,g,off⟩:=y
 cases op
 case callK f args ts =>
  intro t ht
  simp only [AOper.slots,AOper.plain,AOp.plain,List.mem_append] at ht ⊢
  rcases ht with (ht | ht) | ht
  ·exact .inl (.inl ht)
  ·refine .inl (.inr ?_)
   refine x5E (fun x hx=>?_) t ht
   simp only [AOp.opds,List.mem_cons,List.mem_append] at hx ⊢
   rcases hx with hx | hx
   ·exact .inl hx
   ·exact .inr (.inl hx)
  ·exact .inr ht
 all_goals exact fun t ht=>ht
theorem xhH {d:Option Nat} {l m:List Nat} (h:∀ t∈l,t∈m) (hm:memO d m=false):memO d l=false:=by
 cases d with
 | none=>rfl
 | some d =>
  simp only [memO] at hm ⊢
  rw [← Bool.not_eq_true] at hm ⊢
  intro q
  exact hm (by simpa using h d (by simpa using q))
theorem sepK {quiet:FuncId→Nat} {x y:AOper} {f:Opd} {args:List Opd} {ts:List Nat} (hy:y.op=.callK f args ts) (hc:x2R quiet x y=true∨xbm x y=true) :
  memO x.dst y.plain.slots=false∧memO y.dst x.slots=false∧(∀ d,x.dst=some d→y.dst≠some d)∧(x.op.inertQ quiet=true∨(x.op.reads=true∧(∀ z∈x.op.opds,xbk ts z=true)∧memO x.dst (x1M x.op.opds)=false)):=by
 have nd:(match x.dst,y.dst with | some a,some b=>a != b | _,_=>true)=true→∀ d,x.dst=some d→y.dst≠some d:=by
  intro hd d e1 e2
  rw [e1,e2] at hd
  simp at hd
 rcases hc with hc | hc
 ·simp only [x2R,hy,Bool.and_eq_true,Bool.not_eq_true',Bool.or_eq_true] at hc
  obtain ⟨⟨⟨h1,h2⟩,h3⟩,h4⟩:=hc
  refine ⟨xhH x8B h1,h2,nd h3,?_⟩
  rcases h4 with (h4 | h4) | ⟨_,(h4 | h4) | h4⟩
  ·exact .inl h4
  ·simp [AOp.inertQ,AOp.inert] at h4
  ·simp [AOp.reads,AOp.inert] at h4
  ·simp [AOp.grows] at h4
  ·simp [AOper.clear,hy] at h4
 ·simp only [xbm,hy,Bool.and_eq_true,Bool.not_eq_true',Bool.or_eq_true,List.all_eq_true] at hc
  obtain ⟨⟨⟨⟨h1,h2⟩,h3⟩,h4⟩,h5⟩:=hc
  refine ⟨h1,h2,nd h3,?_⟩
  rcases h5 with h5 | ⟨h5,h6⟩
  ·left
   unfold AOp.inertQ
   split
   ·rename_i e;rw [e] at h5;simp [AOp.inert] at h5
   ·rename_i e;rw [e] at h5;simp [AOp.inert] at h5
   ·exact h5
  ·exact .inr ⟨h4,h5,h6⟩
theorem xiR {quiet:FuncId→Nat} (hq:x1w quiet call) {y:AOper} {f:Opd} {args:List Opd} {ts:List Nat} (hy:y.op=.callK f args ts) {v:V} {h0 h1:Heap} :
  ∀ {p:List AOper} {en en1:Env} {h:Heap},(∀ x∈p,x2R quiet x y=true∨xbm x y=true)→p.Pairwise (fun x z=>xdC x z=true)→x1i call base p en h=some (en1,h0)→x0M call base y en1 h0=some (v,h1) →
   h0=h∧x0M call base y.plain en h=some (v,h1)∧x1i call base p (en.put y.dst v) h1=some (en1.put y.dst v,h1)
 | [],en,en1,h,_,_,hs,he=>by
  simp only [x1i,Option.some.injEq,Prod.mk.injEq] at hs
  obtain ⟨rfl,rfl⟩:=hs
  exact ⟨rfl,(x1Q.plain y).val he,rfl⟩
 | x::p,en,en1,h,hc,hst,hs,he=>by
  have keep:∀ t∈ts,∀ b o,x1F (en1 t)=some b→h0[b]?=some o→h1[b]?=some o:=by
   intro t ht b o hb ho
   rcases x5s he with ⟨_,e⟩ | ⟨_,_,rfl⟩
   ·have e:=(x1L e).2
    rw [hy] at e
    rw [xjV e t ht b hb,ho]
   ·exact ho
  have hs':=hs
  rw [x0i,Option.bind_eq_some_iff] at hs
  obtain ⟨⟨u,hx⟩,e1,e2⟩:=hs
  obtain ⟨s1,s2,s3,s4⟩:=sepK hy (hc x (by simp))
  have same:hx=h:=by
   rcases s4 with s4 | ⟨s4,_⟩
   ·exact (x4q hq s4 e1).1
   ·exact (x4W s4 e1).1
  subst same
  obtain ⟨rfl,i2,i3⟩:=xiR hq hy (fun z hz=>hc z (by simp [hz])) (List.pairwise_cons.1 hst).2 e2 he
  refine ⟨rfl,?_,?_⟩
  ·rw [← i2]
   exact x4j fun t ht=>(Env.put_other (x2S s1 t ht)).symm
  ·rw [x0i,Option.bind_eq_some_iff]
   refine ⟨(u,h1),?_,by rw [Env.put_comm (fun d e1 e2=>s3 d e2 e1)];exact i3⟩
   have cx:x0M call base x (en.put y.dst v) h1=x0M call base x en h1:=x4j fun t ht=>Env.put_other (x2S s2 t ht)
   rw [cx]
   rcases s4 with s4 | ⟨s4,s5,s6⟩
   ·exact (x4q hq s4 e1).2 h1
   ·by_cases hin:x.op.inert=true
    ·exact (x8P hin e1).2 h1
    refine (x4W s4 e1).2 h1 fun b o' hf _ hb=>?_
    obtain ⟨z,hz,ez⟩:=hf
    have hcov:=s5 z hz
    cases z with
    | val w=>simp only [xbk,Opd.get] at hcov ez;rw [ez] at hcov;simp at hcov
    | qtmp qs t=>simp [xbk] at hcov
    | tmp t =>
     simp only [xbk,List.contains_eq_mem,decide_eq_true_eq] at hcov
     simp only [Opd.get] at ez
     refine keep t hcov b o' ?_ hb
     rw [← ez]
     congr 1
     have htm:t∈x1M x.op.opds:=x33.2 (.inl hz)
     refine x8R (p:=x::p) (fun w hw=>?_) hs'
     rcases List.mem_cons.1 hw with rfl | hw
     ·exact x2S s6 t htm
     ·have:=(List.pairwise_cons.1 hst).1 w hw
      simp only [xdC,Bool.or_eq_true,Bool.not_eq_true'] at this
      rcases this with (h5 | h5) | h5
      ·exact absurd h5 hin
      ·rw [s4] at h5;simp at h5
      ·exact x2S h5 t htm
theorem xlL {quiet:FuncId→Nat} (hq:x1w quiet call) {y:AOper} {r p:List AOper} {en:Env} {h:Heap} {z:Env×Heap} (hc:∀ x∈p,x2R quiet x y=true∨xbm x y=true) (hst:p.Pairwise (fun x z=>xdC x z=true)) (hs:x1i call base (p++y::r) en h=some z) :
  ∃ v h1,x0M call base y.plain en h=some (v,h1)∧x1i call base (p++r) (en.put y.plain.dst v) h1=some z:=by
 have other:y.plain=y→(∀ x∈p,x2R quiet x y=true)→∃ v h1,x0M call base y.plain en h=some (v,h1)∧x1i call base (p++r) (en.put y.plain.dst v) h1=some z:=by
  intro e hc
  have:=xem hq hc hs
  rw [x0i,Option.bind_eq_some_iff] at this
  obtain ⟨⟨v,h1⟩,e1,e2⟩:=this
  rw [e]
  exact ⟨v,h1,e1,e2⟩
 cases hop:y.op
 case callK f args ts =>
  rw [x6h,Option.bind_eq_some_iff] at hs
  obtain ⟨⟨en1,h0⟩,e1,e2⟩:=hs
  rw [x0i,Option.bind_eq_some_iff] at e2
  obtain ⟨⟨v,h1⟩,e2,e3⟩:=e2
  obtain ⟨rfl,i2,i3⟩:=xiR hq hop hc hst e1 e2
  refine ⟨v,h1,i2,?_⟩
  rw [x6h]
  show (x1i call base p (en.put y.dst v) h1).bind _=some z
  rw [i3]
  exact e3
 all_goals
  refine other ?_ fun x hx=>?_
  ·obtain ⟨dst,op,g,off⟩:=y
   simp only at hop
   subst hop
   rfl
  ·rcases hc x hx with h1 | h1
   ·exact h1
   ·simp [xbm,hop] at h1
def xdo (quiet:FuncId→Nat) (ops:List Oper) (f:Nat→AOper) (M:List Nat):Prop :=
 (M.Pairwise fun x i=>depB ops ops.length i x=true∨x2R quiet (f x) (f i)=true∨xbm (f x) (f i)=true)∧M.Pairwise fun x i=>xdC (f x) (f i)=true
theorem x7e {quiet:FuncId→Nat} {ops:List Oper} {l:List AOper}:∀ {pi:List Nat},x8g quiet ops l pi=true→xdo quiet ops (fun i=>l.getD i default) pi
 | [],_=>⟨List.Pairwise.nil,List.Pairwise.nil⟩
 | x::r,h=>by
  simp only [x8g,Bool.and_eq_true,List.all_eq_true,Bool.or_eq_true] at h
  obtain ⟨h1,h2⟩:=h
  obtain ⟨i1,i2⟩:=x7e h2
  refine ⟨List.Pairwise.cons (fun i hi=>?_) i1,List.Pairwise.cons (fun i hi=>(h1 i hi).2) i2⟩
  rcases (h1 i hi).1 with (h3 | h3) | h3
  ·exact .inl h3
  ·exact .inr (.inl h3)
  ·exact .inr (.inr h3)
theorem xkI {quiet:FuncId→Nat} (hq:x1w quiet call) (hc:CallOk P gl call) {ops:Array Oper} {Q:Exit→Act→World→Prop} {f:Nat→AOper}
  (hf:∀ (i:Nat) (o:Oper),ops[i]?=some o→x6L P gl nt ops.toList o (f i).plain)
  (hback:∀ (i:Nat) (o:Oper),ops[i]?=some o→∀ e∈o.after,Region.binds .any e=true→e.on<i) :
  ∀ (fuel:Nat) (listed:Array Bool) (M:List Nat) {G:Tie} {en en':Env} {h h':Heap} {a:Act} {w:World},
   M.Nodup→xdo quiet ops.toList f M→(∀ i,i∈M↔i<ops.size∧listed.getD i true=false)→listed.size=ops.size→M.length≤fuel →
   (∀ (i:Nat) (o:Oper),ops[i]?=some o→listed.getD i false=true→∀ e∈o.after,Region.binds .any e=true→listed.getD e.on false=true) →
   x0V G gl→x0w G en a.tmps→Rel G h w→base≤h.length→nt≤a.tmps.size→x1i call base (M.map f) en h=some (en',h') →
   (∀ a' w' G',Reach G w h' w' G'→x0w G' en' a'.tmps→a'.tmps.size=a.tmps.size→a'.defers=a.defers→Q .normal a' w')→wpAny P .any ops Q fuel listed a w:=by
 intro fuel
 have done:∀ (listed:Array Bool) (M:List Nat) {G:Tie} {en en':Env} {h h':Heap} {a:Act} {w:World},
   (∀ i,i∈M↔i<ops.size∧listed.getD i true=false)→listed.size=ops.size →
   x0w G en a.tmps→Rel G h w→x1i call base (M.map f) en h=some (en',h') →
   (∀ a' w' G',Reach G w h' w' G'→x0w G' en' a'.tmps→a'.tmps.size=a.tmps.size→a'.defers=a.defers→Q .normal a' w')→Region.ready .any ops listed=[]→Q .normal a w:=by
  intro listed M G en en' h h' a w hM hlen he R hs hQ hr
  by_cases hMn:M=[]
  ·subst hMn
   simp only [List.map_nil,x1i,Option.some.injEq,Prod.mk.injEq] at hs
   obtain ⟨rfl,rfl⟩:=hs
   exact hQ a w G (Reach.refl R) he rfl rfl
  ·exfalso
   obtain ⟨m,hmM,hleast⟩:=x65 hMn
   obtain ⟨hm,hml⟩:=(hM m).1 hmM
   have:m∈Region.ready .any ops listed:=by
    rw [mem_ready]
    refine ⟨hml,ops[m],Array.getElem?_eq_getElem hm,fun e he hb=>?_⟩
    have hlt:=hback m _ (Array.getElem?_eq_getElem hm) e he hb
    cases hv:listed.getD e.on false with
    | true=>rfl
    | false =>
     exfalso
     have hin:e.on∈M:=(hM e.on).2 ⟨by omega,by
      have:e.on<listed.size:=by omega
      simp [this] at hv ⊢
      exact hv⟩
     have:=hleast _ hin
     omega
   rw [hr] at this
   simp at this
 induction fuel with
 | zero =>
  intro listed M G en en' h h' a w hnd hp hM hlen hfuel down hgl he R hb hsz hs hQ
  have hMn:M=[]:=by simpa using hfuel
  have hr:Region.ready .any ops listed=[]:=by
   refine List.eq_nil_iff_forall_not_mem.2 fun i hi=>?_
   rw [mem_ready] at hi
   have:=(hM i).2 ⟨by have:=x1U hi.1;omega,hi.1⟩
   rw [hMn] at this
   simp at this
  exact ⟨hr,done listed M hM hlen he R hs hQ hr⟩
 | succ fuel ih =>
  intro listed M G en en' h h' a w hnd hp hM hlen hfuel down hgl he R hb hsz hs hQ
  refine ⟨done listed M hM hlen he R hs hQ,fun i hi=>?_⟩
  obtain ⟨hil,o,ho,hall⟩:=mem_ready.1 hi
  have hisz:i<ops.size:=by have:=x1U hil;omega
  have him:=(hM i).2 ⟨hisz,hil⟩
  obtain ⟨p,r,rfl⟩:=List.append_of_mem him
  have hst:(p.map f).Pairwise (fun x z=>xdC x z=true):=by
   have:=hp.2
   rw [List.pairwise_append] at this
   rw [List.pairwise_map]
   exact this.1
  have hcm:∀ x∈p.map f,x2R quiet x (f i)=true∨xbm x (f i)=true:=by
   intro y hy
   simp only [List.mem_map] at hy
   obtain ⟨x,hx,rfl⟩:=hy
   have hp1:=hp.1
   rw [List.pairwise_append] at hp1
   rcases hp1.2.2 x hx i (by simp) with hd | hd
   ·exfalso
    have h1:=x3G down _ _ _ o ho hall hd
    have h2:=((hM x).1 (by simp [hx])).2
    have h3:=x1U h2
    simp [h3] at h1 h2
    rw [h1] at h2
    simp at h2
   ·exact hd
  rw [List.map_append,List.map_cons] at hs
  obtain ⟨v,h1,e1,e2⟩:=xlL hq hcm hst hs
  refine x7P hc ho (hf i o ho) hgl he R hb hsz e1 fun a' w' G' hreach hb' he' q1 q2=>?_
  have hsub:(p++r).Sublist (p++i::r):=List.Sublist.append_left (List.sublist_cons_self i r) p
  have hni:i ∉ p++r:=by
   have h1:=List.nodup_append.1 hnd
   have h2:=List.nodup_cons.1 h1.2.1
   intro hc
   rcases List.mem_append.1 hc with hc | hc
   ·exact h1.2.2 i hc i (by simp) rfl
   ·exact h2.1 hc
  rw [← List.map_append] at e2
  refine ih (listed.setIfInBounds i true) (p++r) (hnd.sublist hsub) ⟨List.Pairwise.sublist hsub hp.1,List.Pairwise.sublist hsub hp.2⟩ ?_ (by simpa using hlen) (by simp at hfuel ⊢;omega) ?_ (hgl.ext hreach.ext) he' hreach.rel hb' (by omega) e2 fun a'' w'' G'' hreach' he'' r1 r2=>hQ a'' w'' G'' (hreach.trans hreach') he'' (r1.trans q1) (r2.trans q2)
  ·intro x
   by_cases hx:i=x
   ·subst hx
    constructor
    ·intro hx;exact absurd hx hni
    ·rintro ⟨_,hx⟩
     have:i<listed.size:=by omega
     simp [this] at hx
   ·rw [getD_set_ne true hx,← hM x]
    simp only [List.mem_append,List.mem_cons]
    constructor
    ·rintro (h1 | h1)
     ·exact .inl h1
     ·exact .inr (.inr h1)
    ·rintro (h1 | h1 | h1)
     ·exact .inl h1
     ·exact absurd h1.symm hx
     ·exact .inr h1
  ·intro x ox hox hxl e hm hbd
   by_cases hx:i=x
   ·subst hx
    rw [ho] at hox
    injection hox with hox
    subst hox
    exact getD_set_true (hall e hm hbd)
   ·rw [getD_set_ne false hx] at hxl
    exact getD_set_true (down x ox hox hxl e hm hbd)
end
end
section
open Go.RowKit (Below)
noncomputable def Tie.cut (G:Tie) (h:Heap) (w:World) (base:Nat):Tie :=
 open Classical in
 {fz:=fun k o=>if (∃ b,b<base∧G.real h b=some k)∨G.kp k=true then G.fz k o else w.cell? ⟨k,o,none⟩
  n:=base
  bx:=G.bx
  rw:=fun b=>if b<base then G.rw b else none
  b0:=G.b0
  kp:=G.kp }
theorem xjc {G:Tie} {h:Heap} {w:World} (R:Rel G h w) {base k o:Nat} {v:Value} (hv:G.fz k o=some v):(G.cut h w base).fz k o=some v:=by
 unfold Tie.cut
 simp only
 split
 ·exact hv
 ·exact R.fz k o v hv
theorem xdh {G:Tie} {h:Heap} {w:World} (R:Rel G h w) {base k o b:Nat} (hb:base≤b) (hk:G.real h b=some k):(G.cut h w base).fz k o=w.cell? ⟨k,o,none⟩:=by
 unfold Tie.cut
 simp only
 rw [if_neg]
 rintro (⟨b',hb',hk'⟩ | hk')
 ·have:=R.inj b' b k hk' hk
  omega
 ·rw [R.kp_of hk] at hk'
  exact absurd hk' (by simp)
theorem x6X {n:Nat} {v:V} (h:x1h v=true):x0n n v=true:=by
 cases v<;>simp_all [x1h,x0n]
section
variable {G:Tie} {h:Heap} {w:World} {base:Nat}
mutual
theorem RepV.cut (R:Rel G h w):∀ {v:V} {r:Value},x0n base v=true→RepV G v r→RepV (G.cut h w base) v r
 | .undef,_,_,_=>by simp [RepV]
 | .sc v,r,_,hv=>by simpa [RepV] using hv
 | .agg cs,r,hr,hv=>by
  simp only [RepV,x0n] at hv hr ⊢
  obtain ⟨rs,e,hv⟩:=hv
  exact ⟨rs,e,RepL.cut R hr hv⟩
 | .tup cs,r,hr,hv=>by
  simp only [RepV,x0n] at hv hr ⊢
  obtain ⟨rs,e,hv⟩:=hv
  exact ⟨rs,e,RepL.cut R hr hv⟩
 | .slc ex sz rows,r,_,hv=>by
  simp only [RepV] at hv ⊢
  obtain ⟨a,cap,e,hl,he,hg,b,o,ha,hb,hv⟩:=hv
  exact ⟨a,cap,e,hl,he,hg,b,o,ha,hb,x0T.cut R hg hv⟩
 | .hsl b e off len,r,hr,hv=>by
  simp only [RepV,x0n,decide_eq_true_eq] at hv hr ⊢
  obtain ⟨hb,a,cap,e1,hL⟩:=hv
  refine ⟨hr,a,cap,e1,fun L hL'=>?_⟩
  unfold Tie.cut at hL'
  simp only at hL'
  rw [if_pos hr] at hL'
  exact hL L hL'
 | .ptr b off,r,hr,hv=>by
  simp only [RepV,x0n,decide_eq_true_eq] at hv hr ⊢
  exact ⟨hr,hv.2⟩
 | .rptr b e i off,r,hr,hv=>by
  simp only [RepV,x0n,decide_eq_true_eq] at hv hr ⊢
  obtain ⟨hb,a,e1,hL⟩:=hv
  refine ⟨hr,a,e1,fun L hL'=>?_⟩
  unfold Tie.cut at hL'
  simp only at hL'
  rw [if_pos hr] at hL'
  exact hL L hL'
 | .eptr cs off,r,_,hv=>by
  simp only [RepV] at hv ⊢
  obtain ⟨b,o,e,hg,hv⟩:=hv
  exact ⟨b,o,e,hg,RepF.cut R hg hv⟩
 | .fn f a c,r,hr,hv=>by
  simp only [RepV,x0n,Bool.and_eq_true] at hv hr ⊢
  obtain ⟨ra,rc,e,h1,h2⟩:=hv
  exact ⟨ra,rc,e,RepL.cut R hr.1 h1,RepL.cut R hr.2 h2⟩
 | .ifc t v,r,hr,hv=>by
  simp only [RepV,x0n] at hv hr ⊢
  obtain ⟨rv,e,hv⟩:=hv
  exact ⟨rv,e,RepV.cut R hr hv⟩
 | .mp b,r,hr,hv=>by
  simp only [RepV,x0n,decide_eq_true_eq] at hv hr ⊢
  exact ⟨hr,hv.2⟩
 | .opq,r,hr,hv=>by
  simp only [RepV] at hv ⊢
  exact hv
theorem RepL.cut (R:Rel G h w):∀ {v:List V} {r:List Value},x0B base v=true→RepL G v r→RepL (G.cut h w base) v r
 | [],r,_,hv=>by simpa [RepL] using hv
 | c::cs,r,hr,hv=>by
  simp only [RepL,x0B,Bool.and_eq_true] at hv hr ⊢
  obtain ⟨a,rest,e,h1,h2⟩:=hv
  exact ⟨a,rest,e,RepV.cut R hr.1 h1,RepL.cut R hr.2 h2⟩
theorem RepF.cut (R:Rel G h w):∀ {b o:Nat} {v:List V},v.all x1h=true→RepF G b o v→RepF (G.cut h w base) b o v
 | _,_,[],_,_=>by simp [RepF]
 | b,o,c::cs,hg,hv=>by
  simp only [RepF,List.all_cons,Bool.and_eq_true] at hv hg ⊢
  obtain ⟨⟨v,h1,h2⟩,h3⟩:=hv
  exact ⟨⟨v,xjc R h1,RepV.cut R (x6X hg.1) h2⟩,RepF.cut R hg.2 h3⟩
theorem x0T.cut (R:Rel G h w):∀ {sz b o:Nat} {v:List (List V)},(v.all fun l=>l.all x1h)=true→x0T G sz b o v→x0T (G.cut h w base) sz b o v
 | _,_,_,[],_,_=>by simp [x0T]
 | sz,b,o,c::cs,hg,hv=>by
  simp only [x0T,List.all_cons,Bool.and_eq_true] at hv hg ⊢
  exact ⟨hv.1,RepF.cut R hg.1 hv.2.1,x0T.cut R hg.2 hv.2.2⟩
end
theorem RepM.cut (R:Rel G h w):∀ {es:List (Value×V)} {l:List MapEntry},(∀ e∈es,x0n base e.2=true)→RepM G es l→RepM (G.cut h w base) es l
 | [],l,_,hv=>hv
 | e::es,l,hg,hv=>by
  simp only [RepM] at hv ⊢
  obtain ⟨y,r,e1,h1,h2,h3⟩:=hv
  exact ⟨y,r,e1,h1,h2.cut R (hg e (by simp)),RepM.cut R (fun e he=>hg e (by simp [he])) h3⟩
theorem Rel.cut (R:Rel G h w) (ho:x3g base h) (hb:base≤h.length):Rel (G.cut h w base) (h.take base) w:=by
 have hget:∀ b,b<base→(h.take base)[b]?=h[b]?:=fun b hb=>List.getElem?_take_of_lt hb
 have hnone:∀ b,base≤b→(h.take base)[b]?=none:=fun b hb=>List.getElem?_eq_none (by simp;omega)
 have hreal:∀ b k,(G.cut h w base).real (h.take base) b=some k→b<base∧G.real h b=some k:=by
  intro b k hk
  rcases Nat.lt_or_ge b base with hl | hl
  ·refine ⟨hl,?_⟩
   unfold Tie.real at hk ⊢
   rw [hget b hl] at hk
   simp only [Tie.cut,if_pos hl] at hk
   exact hk
  ·unfold Tie.real at hk
   rw [hnone b hl] at hk
   simp at hk
 refine ⟨by simp [Tie.cut];omega,?_,?_,?_,?_,?_,?_,R.hb0,fun c hc=>?_⟩
 ·intro k o v hv
  unfold Tie.cut at hv
  simp only at hv
  split at hv
  ·exact R.fz k o v hv
  ·exact hv
 ·intro b t cs e
  rcases Nat.lt_or_ge b base with hl | hl
  ·rw [hget b hl] at e
   obtain ⟨h1,rs,h2,h3⟩:=R.box b t cs e
   exact ⟨h1,rs,h2,h3.cut R ((ho b hl).1 _ cs e)⟩
  ·rw [hnone b hl] at e
   simp at e
 ·intro b t sz e rows eq
  rcases Nat.lt_or_ge b base with hl | hl
  ·rw [hget b hl] at eq
   obtain ⟨h0,L,rs,h1,h2,h3,h4,h5,h6,h7⟩:=R.row b t sz e rows eq
   refine ⟨h0,L,rs,by simp only [Tie.cut,if_pos hl];exact h1,h2,h3,h4,h5,h6,fun i cs hi=>?_⟩
   obtain ⟨q1,q2,q3⟩:=h7 i cs hi
   refine ⟨q1,q2,fun j c hj=>?_⟩
   obtain ⟨v,q4,q5⟩:=q3 j c hj
   have:=(ho b hl).2.1 _ _ _ _ eq cs (List.mem_of_getElem? hi)
   exact ⟨v,q4,q5.cut R (x32.1 this c (List.mem_of_getElem? hj))⟩
  ·rw [hnone b hl] at eq
   simp at eq
 ·intro b es e
  rcases Nat.lt_or_ge b base with hl | hl
  ·rw [hget b hl] at e
   obtain ⟨l,clock,h1,h2⟩:=R.mp b es e
   exact ⟨l,clock,h1,RepM.cut R ((ho b hl).2.2 es e) h2⟩
  ·rw [hnone b hl] at e
   simp at e
 ·intro b k hk
  obtain ⟨hl,hk⟩:=hreal b k hk
  refine ⟨(R.low b k hk).1,fun o=>?_⟩
  unfold Tie.cut
  simp only
  rw [if_pos (.inl ⟨b,hl,hk⟩)]
  exact (R.low b k hk).2 o
 ·intro b b' k h1 h2
  exact R.inj b b' k (hreal b k h1).2 (hreal b' k h2).2
 ·obtain ⟨k1,k2,k3⟩:=R.kp c hc
  refine ⟨k1,fun o=>?_,fun b e=>k3 b (hreal b c e).2⟩
  unfold Tie.cut
  simp only
  rw [if_pos (.inr hc)]
  exact k2 o
theorem Ext.cut {G0:Tie} (x:Ext G0 G) (R:Rel G h w) (hn:G0.n=base):Ext G0 (G.cut h w base) where
 fz b o v hv:=xjc R (x.fz b o v hv)
 n:=by simp [Tie.cut,hn]
 bx b hb:=x.bx b hb
 rw b hb L hL:=by
  unfold Tie.cut at hL
  simp only at hL
  rw [if_pos (by omega)] at hL
  exact x.rw b hb L hL
 b0:=x.b0
 kp:=x.kp
theorem xb8 (R:Rel G h w) {b e off len sz:Nat} {rs rs':List (List V)} {r:Value} (hb:base≤b) (hr:rowAt h b e=some (sz,rs)) (hl:off+len≤rs.length) (hlen:rs'.length=rs.length) (hg:(rs'.all fun l=>l.all x1h)=true)
  (hv:RepV G (.hsl b e off len) r) (hc:∀ (i:Nat) (cs cs':List V),rs[i]?=some cs→rs'[i]?=some cs'→cs'.length=cs.length∧∀ (j:Nat) (c c':V) (v:Value),cs[j]?=some c→cs'[j]?=some c'→RepV G c v→RepV (G.cut h w base) c' v) :
  RepV (G.cut h w base) (.slc .any sz ((rs'.drop off).take len)) r:=by
 obtain ⟨ty,eq,hpos,L,cells,hL,hLe,hLs,hcp,hw,hsz,hB⟩:=R.rowAt hr
 simp only [RepV] at hv
 obtain ⟨hbn,a,cap,rfl,hLx⟩:=hv
 obtain ⟨_,h2⟩:=hLx L hL
 obtain ⟨hlc,hoc,haa⟩:=h2 hLe.symm
 have hreal:G.real h b=some L.blk:=by unfold Tie.real;rw [eq];simp [hL]
 have hlen':((rs'.drop off).take len).length=len:=by simp;omega
 simp only [RepV]
 refine ⟨some a,cap,by rw [hlen'],by rw [hlen'];exact hlc,by simp [Cp.isFull],?_,L.blk,off*sz,?_,by simp,x0T.of_get fun i cs' hi=>?_⟩
 ·rw [List.all_eq_true] at hg ⊢
  exact fun y hy=>hg y (List.mem_of_mem_drop (List.mem_of_mem_take hy))
 ·intro hne
  have:0<len:=by
   rcases Nat.eq_zero_or_pos len with e0 | e0
   ·subst e0;simp at hne
   ·exact e0
  rw [haa (by omega),hLs]
 ·rw [List.getElem?_take] at hi
  split at hi
  ·rename_i hil
   rw [List.getElem?_drop] at hi
   have hcs:rs[off+i]?=some (rs[off+i]'(by omega)):=List.getElem?_eq_getElem (by omega)
   obtain ⟨h3,_,h4⟩:=hB _ _ hcs
   obtain ⟨h5,h6⟩:=hc _ _ _ hcs hi
   refine ⟨by rw [h5,h3],RepF.of_get fun j c' hj=>?_⟩
   have hjl:=(List.getElem?_eq_some_iff.1 hj).1
   have hcj:(rs[off+i]'(by omega))[j]?=some ((rs[off+i]'(by omega))[j]'(by omega)):=List.getElem?_eq_getElem (by omega)
   obtain ⟨v,h7,h8⟩:=h4 j _ hcj
   refine ⟨v,?_,h6 j _ _ v hcj hj h8⟩
   rw [xdh R hb hreal,x3N hw,← h7]
   congr 1
   rw [Nat.add_mul]
  ·simp at hi
theorem xen (R:Rel G h w):∀ (k:Nat),
  (∀ {v v':V} {r:Value},x1Z h base k v=some v'→RepV G v r→RepV (G.cut h w base) v' r) ∧
  (∀ {vs vs':List V} {rs:List Value},x1B h base k vs=some vs'→RepL G vs rs→RepL (G.cut h w base) vs' rs) ∧
  (∀ {vs vs':List V},x1B h base k vs=some vs'→vs'.length=vs.length∧∀ (j:Nat) (c c':V) (v:Value),vs[j]?=some c→vs'[j]?=some c'→RepV G c v→RepV (G.cut h w base) c' v) ∧
  (∀ {rows rows':List (List V)},x2G h base k rows=some rows'→rows'.length=rows.length∧∀ (i:Nat) (cs cs':List V),rows[i]?=some cs→rows'[i]?=some cs'→cs'.length=cs.length ∧
   ∀ (j:Nat) (c c':V) (v:Value),cs[j]?=some c→cs'[j]?=some c'→RepV G c v→RepV (G.cut h w base) c' v):=by
 intro k
 induction k with
 | zero =>
  refine ⟨fun e=>?_,fun e=>?_,fun e=>?_,fun e=>?_⟩
  ·simp [x1Z] at e
  ·simp [x1B] at e
  ·simp [x1B] at e
  ·simp [x2G] at e
 | succ k ih =>
  obtain ⟨ih1,ih2,ih3,ih4⟩:=ih
  refine ⟨fun {v v' r} e hv=>?_,fun {vs vs' rs} e hv=>?_,fun {vs vs'} e=>?_,fun {rows rows'} e=>?_⟩
  ·cases v<;>simp only [x1Z] at e
   case undef=>injection e with e;subst e;simp [RepV]
   case opq=>injection e with e;subst e;simpa [RepV] using hv
   case sc v=>injection e with e;subst e;exact hv.cut R (by simp [x0n])
   case slc=>injection e with e;subst e;exact hv.cut R (by simp [x0n])
   case eptr=>injection e with e;subst e;exact hv.cut R (by simp [x0n])
   case agg cs =>
    simp only [Option.map_eq_some_iff] at e
    obtain ⟨cs',h1,rfl⟩:=e
    simp only [RepV] at hv ⊢
    obtain ⟨rs,e,hv⟩:=hv
    exact ⟨rs,e,ih2 h1 hv⟩
   case tup cs =>
    simp only [Option.map_eq_some_iff] at e
    obtain ⟨cs',h1,rfl⟩:=e
    simp only [RepV] at hv ⊢
    obtain ⟨rs,e,hv⟩:=hv
    exact ⟨rs,e,ih2 h1 hv⟩
   case hsl b ep off len =>
    split at e
    ·rename_i hb
     injection e with e;subst e
     exact hv.cut R (by simpa [x0n] using hb)
    ·rename_i hb
     split at e
     ·rename_i sz rs hr
      split at e
      ·rename_i hl
       split at e
       ·rename_i hg
        injection e with e;subst e
        refine xb8 R (by omega) hr hl rfl hg hv fun i cs cs' h1 h2=>?_
        rw [h1] at h2
        injection h2 with h2
        subst h2
        refine ⟨rfl,fun j c c' v h3 h4 h5=>?_⟩
        rw [h3] at h4
        injection h4 with h4
        subst h4
        rw [List.all_eq_true] at hg
        have:=hg cs (List.mem_of_getElem? h1)
        rw [List.all_eq_true] at this
        exact h5.cut R (x6X (this c (List.mem_of_getElem? h3)))
       ·simp only [Option.bind_eq_some_iff] at e
        obtain ⟨rs',h1,e⟩:=e
        split at e
        ·rename_i hg
         injection e with e;subst e
         obtain ⟨h2,h3⟩:=ih4 h1
         exact xb8 R (by omega) hr hl h2 hg hv h3
        ·simp at e
      ·simp at e
     ·simp at e
   case ptr b o =>
    split at e
    ·rename_i hb
     injection e with e;subst e
     exact hv.cut R (by simpa [x0n] using hb)
    ·simp at e
   case rptr b ep i o =>
    split at e
    ·rename_i hb
     injection e with e;subst e
     exact hv.cut R (by simpa [x0n] using hb)
    ·simp at e
   case mp b =>
    split at e
    ·rename_i hb
     injection e with e;subst e
     exact hv.cut R (by simpa [x0n] using hb)
    ·simp at e
   case fn f a c =>
    split at e
    ·rename_i hb
     injection e with e;subst e
     exact hv.cut R (by simpa [x0n] using hb)
    ·simp at e
   case ifc t v =>
    split at e
    ·rename_i hb
     injection e with e;subst e
     exact hv.cut R (by simpa [x0n] using hb)
    ·simp at e
  ·cases vs with
   | nil =>
    simp only [x1B,Option.some.injEq] at e
    subst e
    simpa [RepL] using hv
   | cons c cs =>
    simp only [x1B,Option.bind_eq_some_iff,Option.map_eq_some_iff] at e
    obtain ⟨c',h1,cs',h2,rfl⟩:=e
    simp only [RepL] at hv ⊢
    obtain ⟨a,rest,e,h3,h4⟩:=hv
    exact ⟨a,rest,e,ih1 h1 h3,ih2 h2 h4⟩
  ·cases vs with
   | nil =>
    simp only [x1B,Option.some.injEq] at e
    subst e
    exact ⟨rfl,fun j c c' v h1=>by simp at h1⟩
   | cons c cs =>
    simp only [x1B,Option.bind_eq_some_iff,Option.map_eq_some_iff] at e
    obtain ⟨c',h1,cs',h2,rfl⟩:=e
    obtain ⟨h3,h4⟩:=ih3 h2
    refine ⟨by simp [h3],fun j d d' v e1 e2 hv=>?_⟩
    cases j with
    | zero =>
     simp at e1 e2
     subst e1;subst e2
     exact ih1 h1 hv
    | succ j=>exact h4 j d d' v (by simpa using e1) (by simpa using e2) hv
  ·cases rows with
   | nil =>
    simp only [x2G,Option.some.injEq] at e
    subst e
    exact ⟨rfl,fun i cs cs' h1=>by simp at h1⟩
   | cons c cs =>
    simp only [x2G,Option.bind_eq_some_iff,Option.map_eq_some_iff] at e
    obtain ⟨c',h1,cs',h2,rfl⟩:=e
    obtain ⟨h3,h4⟩:=ih4 h2
    refine ⟨by simp [h3],fun i d d' e1 e2=>?_⟩
    cases i with
    | zero =>
     simp at e1 e2
     subst e1;subst e2
     exact ih3 h1
    | succ i=>exact h4 i d d' (by simpa using e1) (by simpa using e2)
end
mutual
theorem RepV.refs {G:Tie}:∀ {v:V} {r:Value},RepV G v r→x0n G.n v=true
 | .undef,_,_=>by simp [x0n]
 | .opq,_,_=>by simp [x0n]
 | .sc v,r,hv=>by simp [x0n]
 | .agg cs,r,hv=>by
  simp only [RepV,x0n] at hv ⊢
  obtain ⟨rs,e,hv⟩:=hv
  exact RepL.refs hv
 | .tup cs,r,hv=>by
  simp only [RepV,x0n] at hv ⊢
  obtain ⟨rs,e,hv⟩:=hv
  exact RepL.refs hv
 | .slc ex sz rows,r,_=>by simp [x0n]
 | .hsl b e off len,r,hv=>by
  simp only [RepV,x0n,decide_eq_true_eq] at hv ⊢
  exact hv.1
 | .ptr b off,r,hv=>by
  simp only [RepV,x0n,decide_eq_true_eq] at hv ⊢
  exact hv.1
 | .rptr b e i off,r,hv=>by
  simp only [RepV,x0n,decide_eq_true_eq] at hv ⊢
  exact hv.1
 | .eptr cs off,r,_=>by simp [x0n]
 | .fn f a c,r,hv=>by
  simp only [RepV,x0n,Bool.and_eq_true] at hv ⊢
  obtain ⟨ra,rc,e,h1,h2⟩:=hv
  exact ⟨RepL.refs h1,RepL.refs h2⟩
 | .ifc t v,r,hv=>by
  simp only [RepV,x0n] at hv ⊢
  obtain ⟨rv,e,hv⟩:=hv
  exact RepV.refs hv
 | .mp b,r,hv=>by
  simp only [RepV,x0n,decide_eq_true_eq] at hv ⊢
  exact hv.1
theorem RepL.refs {G:Tie}:∀ {v:List V} {r:List Value},RepL G v r→x0B G.n v=true
 | [],r,_=>by simp [x0B]
 | c::cs,r,hv=>by
  simp only [RepL,x0B,Bool.and_eq_true] at hv ⊢
  obtain ⟨a,rest,e,h1,h2⟩:=hv
  exact ⟨RepV.refs h1,RepL.refs h2⟩
end
theorem Rel.heapOk {G:Tie} {h:Heap} {w:World} (R:Rel G h w):x3g h.length h:=by
 intro b hb
 refine ⟨fun t cs e=>?_,fun t sz e rows eq r hr=>?_,fun es eq e he=>?_⟩
 ·obtain ⟨_,rs,_,h3⟩:=R.box b t cs e
  rw [← R.n]
  exact h3.refs
 ·obtain ⟨_,L,rs,_,_,_,_,_,_,h7⟩:=R.row b t sz e rows eq
  obtain ⟨i,hi⟩:=List.getElem?_of_mem hr
  obtain ⟨_,_,h8⟩:=h7 i r hi
  rw [← R.n,x32]
  intro v hv
  obtain ⟨j,hj⟩:=List.getElem?_of_mem hv
  obtain ⟨u,_,h9⟩:=h8 j v hj
  exact h9.refs
 ·obtain ⟨l,clock,_,h2⟩:=R.mp b es eq
  obtain ⟨y,_,_,hy⟩:=h2.mem he
  rw [← R.n]
  exact hy.refs
end
section
open Go.RowKit (Below)
section
variable {P:Program} {gl:Nat→Option (List V)} {call:x3T} {base nt:Nat}
theorem x70 {o:AOper} {en:Env} {h:Heap} (hn:(∀ f a,o.op≠.call f a)∧∀ f a t,o.op≠.callK f a t) (hg:o.guard=none) (ho:o.off=[]):x0M call base o en h=step base en h o.op:=by
 unfold x0M
 rw [hg]
 simp only
 unfold x1x
 rw [if_pos (x7f ho en)]
 exact x3e hn
theorem xdT {x:Opd} {s:Nat} {en:Env} {v:V} (h:x.notTmp s=true):x.get (en.put (some s) v)=x.get en:=by
 cases x with
 | tmp u =>
  simp only [Opd.notTmp,bne_iff_ne,ne_eq] at h
  show (if u=s then v else en u)=en u
  rw [if_neg h]
 | val v=>rfl
 | qtmp qs t=>simp [Opd.notTmp] at h
theorem xc7 {l:List V} (h:l.all x1h=true):l.all zm=true:=by
 rw [List.all_eq_true] at h ⊢
 intro v hv
 have:=h v hv
 cases v<;>simp_all [x1h,zm]
theorem xel {a1 a2 f:AOper} {en:Env} {h h':Heap} {v:V} (hf:xk3 gl a1 a2=some f) (hs:x0M call base f en h=some (v,h')) (hb:base≤h.length) :
  ∃ s t cells,a1.dst=some s∧a2.dst=none∧f.dst=some s∧v=.eptr cells 0∧h'=h∧cells.all x1h=true ∧
   ∃ zs,x0M call base a1 en h=some (.ptr h.length 0,h++[.box t zs])∧x0M call base a2 (en.put (some s) (.ptr h.length 0)) (h++[.box t zs])=some (.undef,h++[.box t cells]):=by
 unfold xk3 at hf
 split at hf
 ·rename_i t zs n s x e1 e2
  split at hf
  ·rename_i hc
   simp only [Bool.and_eq_true,Option.isNone_iff_eq_none,List.isEmpty_iff,beq_iff_eq] at hc
   obtain ⟨⟨⟨⟨⟨⟨⟨⟨c1,c2⟩,c3⟩,c4⟩,c5⟩,c6⟩,c7⟩,c8⟩,_⟩:=hc
   injection hf with hf
   subst hf
   rw [x70 ⟨fun _ _=>by simp,fun _ _ _=>by simp⟩ rfl rfl] at hs
   simp only [step] at hs
   split at hs
   ·rename_i hg
    simp only [Option.all_some,Bool.and_eq_true,beq_iff_eq] at hg
    simp only [Option.some.injEq,Prod.mk.injEq] at hs
    obtain ⟨rfl,rfl⟩:=hs
    refine ⟨s,t,(x.get en).cells,c6,c3,rfl,rfl,rfl,hg.1,zs,?_,?_⟩
    ·rw [x70 (by rw [e1];simp) c1 c4,e1]
     rfl
    ·rw [x70 (by rw [e2];simp) c2 c5,e2]
     have hp:(Opd.tmp s).get (en.put (some s) (.ptr h.length 0))=.ptr h.length 0:=by
      show (if s=s then _ else _)=_
      rw [if_pos rfl]
     have hst:x0y base (h++[.box t zs]) n (.ptr h.length 0) (x.get en)=some (h++[.box t (x.get en).cells]):=by
      unfold x0y
      rw [if_pos ⟨hg.2,xc7 hg.1⟩]
      have hl:(h++[Obj.box t zs])[h.length]?=some (.box t zs):=by simp
      have hput:x0E zs 0 (x.get en).cells=(x.get en).cells:=by
       unfold x0E
       simp [hg.2,c8]
      have hms:x0H base h.length (x.get en).cells=true:=by
       unfold x0H
       simp [hb]
      simp only [hl,hput,hms]
      rw [if_pos ⟨by omega,trivial⟩]
      simp
     simp only [step,hp,xdT c7,hst,Option.map_some]
   ·simp at hs
  ·simp at hf
 ·simp at hf
theorem xc8 (hc:CallOk P gl call) {ops:Array Oper} {Q:Exit→Act→World→Prop}:∀ (aops:List AOper) {l:List Nat} {G:Tie} {en en':Env} {h h':Heap} {a:Act} {w:World},
  All2 (fun i ao=>∃ o,ops[i]?=some o∧x6L P gl nt ops.toList o ao) l aops →
  x0V G gl→x0w G en a.tmps→Rel G h w→base≤h.length→nt≤a.tmps.size→x1i call base (fuse gl aops) en h=some (en',h') →
  (∀ a' w' G',Reach G w h' w' G'→x0w G' en' a'.tmps→a'.tmps.size=a.tmps.size→a'.defers=a.defers→Q .normal a' w')→wpOps P ops Q l a w
 | [],l,G,en,en',h,h',a,w,hall,hgl,he,R,hb,hsz,hs,hQ=>xcP hc hall hgl he R hb hsz hs hQ
 | [a1],l,G,en,en',h,h',a,w,hall,hgl,he,R,hb,hsz,hs,hQ=>xcP hc hall hgl he R hb hsz hs hQ
 | a1::a2::r,l,G,en,en',h,h',a,w,hall,hgl,he,R,hb,hsz,hs,hQ=>by
  simp only [fuse] at hs
  cases l with
  | nil=>simp [All2] at hall
  | cons i l =>
  simp only [All2] at hall
  obtain ⟨ao,aops',heq,⟨o,ho,hser⟩,hall⟩:=hall
  injection heq with e1 e2
  subst e1;subst e2
  split at hs
  ·rename_i f hf
   cases l with
   | nil=>simp [All2] at hall
   | cons j l =>
   simp only [All2] at hall
   obtain ⟨ao2,aops2,heq,⟨o2,ho2,hser2⟩,hall⟩:=hall
   injection heq with e1 e2
   subst e1;subst e2
   rw [x0i,Option.bind_eq_some_iff] at hs
   obtain ⟨⟨v,h1⟩,e1,e2⟩:=hs
   obtain ⟨s,t,cells,d1,d2,d3,rfl,rfl,hg,zs,v1,v2⟩:=xel hf e1 hb
   rw [wpOps_cons]
   refine x7P hc ho hser hgl he R hb hsz v1 fun a1' w1 G1 r1 hb1 he1 q1 q2=>?_
   rw [wpOps_cons]
   rw [d1] at he1
   refine x7P hc ho2 hser2 (hgl.ext r1.ext) he1 r1.rel hb1 (by omega) v2 fun a2' w2 G2 r2 hb2 he2 q3 q4=>?_
   rw [d2] at he2
   have rr:=r1.trans r2
   have hok:x3g h1.length (h1++[.box t cells]):=(R.heapOk).app (Nat.le_refl _) _
   have hR3:Rel (G2.cut (h1++[.box t cells]) w2 h1.length) h1 w2:=by
    have:=rr.rel.cut hok (by simp)
    simpa using this
   have x3:Ext G (G2.cut (h1++[.box t cells]) w2 h1.length):=rr.ext.cut rr.rel R.n
   have r3:Reach G w h1 w2 (G2.cut (h1++[.box t cells]) w2 h1.length):=⟨x3,hR3,rr.below⟩
   have he3:x0w (G2.cut (h1++[.box t cells]) w2 h1.length) (en.put f.dst (.eptr cells 0)) a2'.tmps:=by
    intro u
    have hu:=he2 u
    rw [d3]
    show RepV _ (if u=s then V.eptr cells 0 else en u) _
    by_cases hus:u=s
    ·subst hus
     rw [if_pos rfl]
     have hu:RepV G2 (.ptr h1.length 0) (a2'.tmps.getD u undef):=by
      have e:((en.put (some u) (V.ptr h1.length 0)).put none V.undef) u=.ptr h1.length 0:=by
       show (if u=u then _ else _)=_
       rw [if_pos rfl]
      rw [e] at hu
      exact hu
     simp only [RepV] at hu ⊢
     have hget:(h1++[Obj.box t cells])[h1.length]?=some (.box t cells):=by simp
     obtain ⟨_,rs,hw,hl⟩:=rr.rel.box _ _ _ hget
     refine ⟨G2.bx h1.length,0,by simpa using hu.2,hg,RepF.of_get fun j c hj=>?_⟩
     obtain ⟨rv,hr,hv⟩:=hl.get hj
     refine ⟨rv,?_,hv.cut rr.rel (x6X (List.all_eq_true.1 hg c (List.mem_of_getElem? hj)))⟩
     rw [xdh rr.rel (Nat.le_refl _) (by unfold Tie.real;rw [hget]),x3N hw,Nat.zero_add,← Array.getElem?_toList]
     exact hr
    ·rw [if_neg hus]
     have e:((en.put (some s) (V.ptr h1.length 0)).put none V.undef) u=en u:=by
      show (if u=s then _ else _)=_
      rw [if_neg hus]
     rw [e] at hu
     exact hu.cut rr.rel (by have:=(he u).refs;rwa [R.n] at this)
   refine xc8 hc r hall (hgl.ext x3) he3 hR3 hb (by omega) e2 fun a'' w'' G'' rf he'' s1 s2=>?_
   exact hQ a'' w'' G'' (r3.trans rf) he'' (by omega) ((s2.trans q4).trans q2)
  ·rw [x0i,Option.bind_eq_some_iff] at hs
   obtain ⟨⟨v,h1⟩,e1,e2⟩:=hs
   rw [wpOps_cons]
   refine x7P hc ho hser hgl he R hb hsz e1 fun a' w' G' hreach hb' he' q1 q2=>?_
   refine xc8 hc (a2::r) hall (hgl.ext hreach.ext) he' hreach.rel hb' (by omega) e2 fun a'' w'' G'' hreach' he'' r1 r2=>?_
   exact hQ a'' w'' G'' (hreach.trans hreach') he'' (r1.trans q1) (r2.trans q2)
end
end
section
open Go.RowKit (Below)
theorem x8a (f:Nat→Nat):∀ l:List V,rnVs f l=l.map (rnV f)
 | []=>rfl
 | v::r=>by rw [rnVs,x8a f r];rfl
theorem xhi (f:Nat→Nat) (l:List V):(rnVs f l).length=l.length:=by rw [x8a,List.length_map]
theorem xg6 {f:Nat→Nat} {v:V} (h:x1h v=true):rnV f v=v:=by
 cases v<;>simp [x1h] at h<;>rfl
theorem xdQ {f:Nat→Nat} (v:V):zm (rnV f v)=zm v:=by
 cases v<;>rfl
theorem x6K {f:Nat→Nat} (l:List V):(rnVs f l).all zm=l.all zm:=by
 rw [x8a,List.all_map]
 congr 1
 funext v
 exact xdQ v
mutual
theorem xa1 {n:Nat} {f:Nat→Nat} (hf:∀ b,b<n→f b=b):∀ {v:V},x0n n v=true→rnV f v=v
 | .undef,_=>rfl
 | .sc _,_=>rfl
 | .agg cs,h=>by simp only [x0n] at h;rw [rnV,x5D hf h]
 | .tup cs,h=>by simp only [x0n] at h;rw [rnV,x5D hf h]
 | .slc ..,_=>rfl
 | .hsl b e off len,h=>by simp only [x0n,decide_eq_true_eq] at h;rw [rnV,hf b h]
 | .ptr b off,h=>by simp only [x0n,decide_eq_true_eq] at h;rw [rnV,hf b h]
 | .rptr b e i off,h=>by simp only [x0n,decide_eq_true_eq] at h;rw [rnV,hf b h]
 | .eptr ..,_=>rfl
 | .fn k a c,h=>by
  simp only [x0n,Bool.and_eq_true] at h
  rw [rnV,x5D hf h.1,x5D hf h.2]
 | .ifc t v,h=>by simp only [x0n] at h;rw [rnV,xa1 hf h]
 | .mp b,h=>by simp only [x0n,decide_eq_true_eq] at h;rw [rnV,hf b h]
 | .opq,_=>rfl
theorem x5D {n:Nat} {f:Nat→Nat} (hf:∀ b,b<n→f b=b):∀ {l:List V},x0B n l=true→rnVs f l=l
 | [],_=>rfl
 | v::r,h=>by
  simp only [x0B,Bool.and_eq_true] at h
  rw [rnVs,xa1 hf h.1,x5D hf h.2]
end
mutual
theorem RepV.ltn {G:Tie}:∀ {v:V} {r:Value},RepV G v r→x0n G.n v=true
 | .undef,_,_=>rfl
 | .sc _,_,_=>rfl
 | .agg cs,r,h=>by
  simp only [RepV] at h
  obtain ⟨rs,e,h⟩:=h
  simp only [x0n]
  exact RepL.ltn h
 | .tup cs,r,h=>by
  simp only [RepV] at h
  obtain ⟨rs,e,h⟩:=h
  simp only [x0n]
  exact RepL.ltn h
 | .slc ..,_,_=>rfl
 | .hsl b e off len,r,h=>by simp only [RepV] at h;simp only [x0n,decide_eq_true_eq];exact h.1
 | .ptr b off,r,h=>by simp only [RepV] at h;simp only [x0n,decide_eq_true_eq];exact h.1
 | .rptr b e i off,r,h=>by simp only [RepV] at h;simp only [x0n,decide_eq_true_eq];exact h.1
 | .eptr ..,_,_=>rfl
 | .fn f a c,r,h=>by
  simp only [RepV] at h
  obtain ⟨ra,rc,hr,h1,h2⟩:=h
  simp only [x0n,Bool.and_eq_true]
  exact ⟨RepL.ltn h1,RepL.ltn h2⟩
 | .ifc t v,r,h=>by
  simp only [RepV] at h
  obtain ⟨rv,hr,h⟩:=h
  simp only [x0n]
  exact RepV.ltn h
 | .mp b,r,h=>by simp only [RepV] at h;simp only [x0n,decide_eq_true_eq];exact h.1
 | .opq,_,_=>rfl
theorem RepL.ltn {G:Tie}:∀ {l:List V} {r:List Value},RepL G l r→x0B G.n l=true
 | [],_,_=>rfl
 | c::cs,r,h=>by
  simp only [RepL] at h
  obtain ⟨a,rest,e,h1,h2⟩:=h
  simp only [x0B,Bool.and_eq_true]
  exact ⟨RepV.ltn h1,RepL.ltn h2⟩
end
def Tie.rn (G:Tie) (g:Nat→Nat):Tie:={ G with bx:=fun b=>G.bx (g b),rw:=fun b=>G.rw (g b) }
section
variable {G:Tie} {f g:Nat→Nat}
mutual
theorem RepV.rn (hg:∀ b,g (f b)=b) (hn:∀ b,b<G.n→f b<G.n):∀ {v:V} {r:Value},RepV G v r→RepV (G.rn g) (rnV f v) r
 | .undef,_,_=>by simp [rnV,RepV]
 | .sc v,r,h=>by simpa [rnV,RepV] using h
 | .agg cs,r,h=>by
  simp only [rnV,RepV] at h ⊢
  obtain ⟨rs,e,h⟩:=h
  exact ⟨rs,e,RepL.rn hg hn h⟩
 | .tup cs,r,h=>by
  simp only [rnV,RepV] at h ⊢
  obtain ⟨rs,e,h⟩:=h
  exact ⟨rs,e,RepL.rn hg hn h⟩
 | .slc ex sz rows,r,h=>by
  simp only [rnV,RepV] at h ⊢
  obtain ⟨a,cap,e,hl,he,hgr,b,o,ha,hb,h⟩:=h
  exact ⟨a,cap,e,hl,he,hgr,b,o,ha,hb,x0T.rn hg hn hgr h⟩
 | .hsl b e off len,r,h=>by
  simp only [rnV,RepV] at h ⊢
  obtain ⟨hb,a,cap,hr,h⟩:=h
  refine ⟨hn b hb,a,cap,hr,fun L hL=>h L ?_⟩
  simp only [Tie.rn,hg] at hL
  exact hL
 | .ptr b off,r,h=>by
  simp only [rnV,RepV] at h ⊢
  refine ⟨hn b h.1,?_⟩
  simp only [Tie.rn,hg]
  exact h.2
 | .rptr b e i off,r,h=>by
  simp only [rnV,RepV] at h ⊢
  obtain ⟨hb,a,hr,h⟩:=h
  refine ⟨hn b hb,a,hr,fun L hL=>h L ?_⟩
  simp only [Tie.rn,hg] at hL
  exact hL
 | .eptr cs off,r,h=>by
  simp only [rnV,RepV] at h ⊢
  obtain ⟨b,o,hr,hgr,h⟩:=h
  exact ⟨b,o,hr,hgr,RepF.rn hg hn hgr h⟩
 | .fn k a c,r,h=>by
  simp only [rnV,RepV] at h ⊢
  obtain ⟨ra,rc,hr,h1,h2⟩:=h
  exact ⟨ra,rc,hr,RepL.rn hg hn h1,RepL.rn hg hn h2⟩
 | .ifc t v,r,h=>by
  simp only [rnV,RepV] at h ⊢
  obtain ⟨rv,hr,h⟩:=h
  exact ⟨rv,hr,RepV.rn hg hn h⟩
 | .mp b,r,h=>by
  simp only [rnV,RepV] at h ⊢
  refine ⟨hn b h.1,?_⟩
  simp only [Tie.rn,hg]
  exact h.2
 | .opq,r,h=>by
  simp only [rnV,RepV] at h ⊢
  exact h
theorem RepL.rn (hg:∀ b,g (f b)=b) (hn:∀ b,b<G.n→f b<G.n):∀ {v:List V} {r:List Value},RepL G v r→RepL (G.rn g) (rnVs f v) r
 | [],r,h=>by simpa [rnVs,RepL] using h
 | c::cs,r,h=>by
  simp only [rnVs,RepL] at h ⊢
  obtain ⟨a,rest,e,h1,h2⟩:=h
  exact ⟨a,rest,e,RepV.rn hg hn h1,RepL.rn hg hn h2⟩
theorem RepF.rn (hg:∀ b,g (f b)=b) (hn:∀ b,b<G.n→f b<G.n):∀ {b o:Nat} {v:List V},v.all x1h=true→RepF G b o v→RepF (G.rn g) b o v
 | _,_,[],_,_=>by simp [RepF]
 | b,o,c::cs,hgr,h=>by
  simp only [List.all_cons,Bool.and_eq_true] at hgr
  simp only [RepF] at h ⊢
  obtain ⟨⟨v,h1,h2⟩,h3⟩:=h
  have:=RepV.rn hg hn h2
  rw [xg6 hgr.1] at this
  exact ⟨⟨v,h1,this⟩,RepF.rn hg hn hgr.2 h3⟩
theorem x0T.rn (hg:∀ b,g (f b)=b) (hn:∀ b,b<G.n→f b<G.n):∀ {sz b o:Nat} {v:List (List V)},(v.all fun l=>l.all x1h)=true→x0T G sz b o v→x0T (G.rn g) sz b o v
 | _,_,_,[],_,_=>by simp [x0T]
 | sz,b,o,c::cs,hgr,h=>by
  simp only [List.all_cons,Bool.and_eq_true] at hgr
  simp only [x0T] at h ⊢
  exact ⟨h.1,RepF.rn hg hn hgr.1 h.2.1,x0T.rn hg hn hgr.2 h.2.2⟩
end
theorem RepM.rn (hg:∀ b,g (f b)=b) (hn:∀ b,b<G.n→f b<G.n):∀ {es:List (Value×V)} {l:List MapEntry},RepM G es l→RepM (G.rn g) (es.map fun e=>(e.1,rnV f e.2)) l
 | [],l,h=>by simpa [RepM] using h
 | e::es,l,h=>by
  simp only [List.map_cons,RepM] at h ⊢
  obtain ⟨x,r,e1,h1,h2,h3⟩:=h
  exact ⟨x,r,e1,h1,h2.rn hg hn,RepM.rn hg hn h3⟩
theorem x2A.rn (hg:∀ b,g (f b)=b) (hn:∀ b,b<G.n→f b<G.n) {sz:Nat} {rs:Array Value} {rows:List (List V)} (h:x2A G sz rs rows):x2A (G.rn g) sz rs (rows.map (rnVs f)):=by
 intro i cs e
 rw [List.getElem?_map,Option.map_eq_some_iff] at e
 obtain ⟨cs',e',rfl⟩:=e
 obtain ⟨h1,h2,h3⟩:=h i cs' e'
 refine ⟨by rw [xhi];exact h1,by rw [x6K];exact h2,fun j c ec=>?_⟩
 rw [x8a,List.getElem?_map,Option.map_eq_some_iff] at ec
 obtain ⟨c',ec',rfl⟩:=ec
 obtain ⟨v,hv,hr⟩:=h3 j c' ec'
 exact ⟨v,hv,hr.rn hg hn⟩
theorem Rel.rn {h h0:Heap} {w:World} (R:Rel G h w) (hg:∀ b,g (f b)=b) (hf:∀ b,f (g b)=b) (hn:∀ b,b<G.n→f b<G.n) (hn':∀ b,b<G.n→g b<G.n) (hl:h0.length=h.length)
  (hh:∀ b,b<h.length→h0[b]?=(h[g b]?).map (rnO f)):Rel (G.rn g) h0 w:=by
 have src:∀ b o,h0[b]?=some o→∃ o',h[g b]?=some o'∧o=rnO f o':=by
  intro b o e
  have hb:b<h0.length:=(List.getElem?_eq_some_iff.1 e).1
  rw [hh b (by omega),Option.map_eq_some_iff] at e
  obtain ⟨o',e1,e2⟩:=e
  exact ⟨o',e1,e2.symm⟩
 have rl:∀ b k,(G.rn g).real h0 b=some k→G.real h (g b)=some k:=by
  intro b k e
  unfold Tie.real at e ⊢
  cases hb:h0[b]? with
  | none=>rw [hb] at e;simp at e
  | some o =>
   obtain ⟨o',e1,rfl⟩:=src b o hb
   rw [hb] at e
   rw [e1]
   cases o'<;>first | (simp [rnO] at e;done) | simpa [rnO,Tie.rn] using e
 refine ⟨?_,R.fz,?_,?_,?_,?_,?_,R.hb0,?_⟩
 ·show G.n=h0.length
  rw [hl,R.n]
 ·intro b t cs e
  obtain ⟨o',e1,e2⟩:=src b _ e
  cases o' with
  | box t' cs' =>
   simp only [rnO,Obj.box.injEq] at e2
   obtain ⟨rfl,rfl⟩:=e2
   obtain ⟨h1,rs,h2,h3⟩:=R.box _ _ _ e1
   exact ⟨by rw [x6K];exact h1,rs,h2,h3.rn hg hn⟩
  | _=>simp [rnO] at e2
 ·intro b t sz e rows eq
  obtain ⟨o',e1,e2⟩:=src b _ eq
  cases o' with
  | row t' sz' e' rows' =>
   simp only [rnO,Obj.row.injEq] at e2
   obtain ⟨rfl,rfl,rfl,rfl⟩:=e2
   obtain ⟨h0,L,rs,h1,h2,h3,h4,h5,h6,h7⟩:=R.row _ _ _ _ _ e1
   exact ⟨h0,L,rs,h1,h2,h3,by rw [List.length_map];exact h4,h5,h6,h7.rn hg hn⟩
  | _=>simp [rnO] at e2
 ·intro b es e
  obtain ⟨o',e1,e2⟩:=src b _ e
  cases o' with
  | mmap es' =>
   simp only [rnO,Obj.mmap.injEq] at e2
   subst e2
   obtain ⟨l,c,h1,h2⟩:=R.mp _ _ e1
   exact ⟨l,c,h1,h2.rn hg hn⟩
  | _=>simp [rnO] at e2
 ·intro b k e
  exact R.low _ _ (rl b k e)
 ·intro b b' k e e'
  have:=R.inj _ _ k (rl b k e) (rl b' k e')
  rw [← hf b,← hf b',this]
 ·intro k hk
  obtain ⟨h1,h2,h3⟩:=R.kp k hk
  exact ⟨h1,h2,fun b e=>h3 _ (rl b k e)⟩
theorem Ext.rn {G0:Tie} (x:Ext G0 G) (hg:∀ b,b<G0.n→g b=b):Ext G0 (G.rn g) where
 fz:=x.fz
 n:=x.n
 bx b hb:=by
  show G.bx (g b)=_
  rw [hg b hb]
  exact x.bx b hb
 rw b hb L' hL:=by
  have:G.rw (g b)=some L':=hL
  rw [hg b hb] at this
  exact x.rw b hb L' this
 b0:=x.b0
 kp:=x.kp
end
end
section
open Go.RowKit (Below)
theorem x7F:∀ a b:Heap,x7n a b=true↔a=b
 | [],b=>by cases b<;>simp [x7n]
 | a::as,b=>by cases b<;>simp only [x7n,Bool.false_eq_true,reduceCtorEq,x8W,x7F as,Bool.and_eq_true,List.cons.injEq]
theorem xfR {n:Nat} {p q:List Nat} (hi:invB p q=true):(∀ b,rnI n q (rnI n p b)=b)∧(∀ b,rnI n p (rnI n q b)=b)∧∀ b,b<n+p.length→rnI n p b<n+p.length∧rnI n q b<n+p.length:=by
 simp only [invB,Bool.and_eq_true,beq_iff_eq,List.all_eq_true,List.mem_range,decide_eq_true_eq] at hi
 obtain ⟨hl,hi⟩:=hi
 have out:∀ (l:List Nat) (j:Nat),l.length≤j→l.getD j j=j:=fun l j h=>by simp [List.getD,List.getElem?_eq_none h]
 refine ⟨fun b=>?_,fun b=>?_,fun b hb=>?_⟩
 ·by_cases h1:b<n
  ·simp only [rnI,if_pos h1]
  ·by_cases h2:b-n<p.length
   ·obtain ⟨a1,a2,a3,a4⟩:=hi (b-n) h2
    simp only [rnI,if_neg h1]
    rw [if_neg (by omega),Nat.add_sub_cancel_left,a3]
    omega
   ·simp only [rnI,if_neg h1]
    rw [out p _ (by omega),if_neg (by omega),Nat.add_sub_cancel_left,out q _ (by omega)]
    omega
 ·by_cases h1:b<n
  ·simp only [rnI,if_pos h1]
  ·by_cases h2:b-n<p.length
   ·obtain ⟨a1,a2,a3,a4⟩:=hi (b-n) h2
    simp only [rnI,if_neg h1]
    rw [if_neg (by omega),Nat.add_sub_cancel_left,a4]
    omega
   ·simp only [rnI,if_neg h1]
    rw [out q _ (by omega),if_neg (by omega),Nat.add_sub_cancel_left,out p _ (by omega)]
    omega
 ·by_cases h1:b<n
  ·simp only [rnI,if_pos h1]
   omega
  ·obtain ⟨a1,a2,a3,a4⟩:=hi (b-n) (by omega)
   simp only [rnI,if_neg h1]
   omega
theorem xcI {n b:Nat} {p:List Nat} (h:b<n):rnI n p b=b:=if_pos h
theorem xlw {G:Tie} {f:Nat→Nat} (hf:∀ b,b<G.n→f b=b):∀ {es:List (Value×V)} {l:List MapEntry},RepM G es l→(es.map fun e=>(e.1,rnV f e.2))=es
 | [],_,_=>rfl
 | e::es,l,h=>by
  simp only [RepM] at h
  obtain ⟨x,r,rfl,_,h3,h4⟩:=h
  rw [List.map_cons,xa1 hf h3.ltn,xlw hf h4]
theorem xjw {G:Tie} {h:Heap} {w:World} {f:Nat→Nat} (R:Rel G h w) (hf:∀ b,b<G.n→f b=b) {b:Nat} {o:Obj} (e:h[b]?=some o):rnO f o=o:=by
 cases o with
 | dead=>rfl
 | box t cs =>
  obtain ⟨_,rs,_,h3⟩:=R.box b t cs e
  simp only [rnO]
  rw [x5D hf h3.ltn]
 | row t sz ep rows =>
  obtain ⟨_,L,rs,_,_,_,_,_,_,h7⟩:=R.row b t sz ep rows e
  simp only [rnO,Obj.row.injEq,true_and]
  refine (List.map_congr_left fun cs hc=>?_).trans (List.map_id rows)
  obtain ⟨i,hi⟩:=List.getElem?_of_mem hc
  obtain ⟨_,_,h3⟩:=h7 i cs hi
  refine x5D hf (x32.2 fun v hv=>?_)
  obtain ⟨j,hj⟩:=List.getElem?_of_mem hv
  obtain ⟨_,_,hr⟩:=h3 j v hj
  exact hr.ltn
 | mmap es =>
  obtain ⟨l,c,_,h2⟩:=R.mp b es e
  simp only [rnO,Obj.mmap.injEq]
  exact xlw hf h2
theorem xjW {G G1:Tie} {h:Heap} {w w1:World} {en:Env} {tm tm1:Array Value} {s1 s0:Env×Heap} {p q ds:List Nat} (R:Rel G h w) (he:x0w G en tm) (x:Ext G G1) (R1:Rel G1 s1.2 w1) (he1:x0w G1 s1.1 tm1)
  (h1:∀ t,t ∉ ds→s1.1 t=en t) (h0:∀ t,t ∉ ds→s0.1 t=en t) (hi:isoB p q ds h s1 s0=true):∃ G0,Ext G G0∧Rel G0 s0.2 w1∧x0w G0 s0.1 tm1:=by
 obtain ⟨en1,h1'⟩:=s1
 obtain ⟨en0,h0'⟩:=s0
 simp only at *
 unfold isoB at hi
 split at hi
 ·simp only [Bool.and_eq_true,x7F,List.all_eq_true,x7E] at hi
  obtain ⟨e1,e2⟩:=hi
  subst e1
  refine ⟨G1,x,R1,fun t=>?_⟩
  have:=he1 t
  by_cases ht:t∈ds
  ·rwa [e2 t ht] at this
  ·rwa [h1 t ht,← h0 t ht] at this
 ·simp only [Bool.and_eq_true,Bool.or_eq_true,beq_iff_eq,x7F,List.all_eq_true,List.mem_range,x7m,x7E] at hi
  obtain ⟨i1,i2,i3,i4,i5,i6⟩:=hi
  obtain ⟨k1,k2,k3⟩:=xfR (n:=h.length) i1
  have hGn:=R.n
  have hG1:=R1.n
  have hold:∀ b,b<h.length→h0'[b]?=(h1'[b]?).map (rnO (rnI h.length p)):=by
   intro b hb
   rcases i4 with ⟨j1,j2⟩ | i4
   ·have a1:h1'[b]?=h[b]?:=by rw [← j1,List.getElem?_take_of_lt hb]
    have a0:h0'[b]?=h[b]?:=by rw [← j2,List.getElem?_take_of_lt hb]
    rw [a1,a0]
    cases hh:h[b]? with
    | none=>rfl
    | some o=>rw [Option.map_some,xjw R (fun c hc=>xcI (by omega)) hh]
   ·exact i4 b hb
  refine ⟨G1.rn (rnI h.length q),x.rn fun b hb=>xcI (by omega),R1.rn (f:=rnI h.length p) k1 k2 (fun b hb=>by have:=(k3 b (by omega)).1;omega) (fun b hb=>by have:=(k3 b (by omega)).2;omega) (by omega) (fun b hb=>?_),fun t=>?_⟩
  ·by_cases hbn:b<h.length
   ·rw [xcI hbn]
    exact hold b hbn
   ·have:=i5 (b-h.length) (by omega)
    rw [show h.length+(b-h.length)=b by omega] at this
    rw [this]
    simp only [rnI,if_neg hbn]
  ·have hr:=(he1 t).rn (f:=rnI h.length p) k1 (fun b hb=>by have:=(k3 b (by omega)).1;omega)
   by_cases ht:t∈ds
   ·rwa [← i6 t ht] at hr
   ·rw [h1 t ht,xa1 (n:=G.n) (fun b hb=>xcI (by omega)) (he t).ltn,← h0 t ht] at hr
    exact hr
end
section
open Go.RowKit (Below)
def Viol (σ:List Nat) (pr:Nat×Nat):Prop:=∃ s1 s2,σ = s1++pr.2::s2∧pr.1 ∉ s1
theorem Viol.app {σ:List Nat} {pr:Nat×Nat} (h:Viol σ pr) (τ:List Nat):Viol (σ++τ) pr:=by
 obtain ⟨s1,s2,rfl,h⟩:=h
 exact ⟨s1,s2++τ,by simp,h⟩
theorem xjm {σ:List Nat} (hnd:σ.Nodup) {x i:Nat} (hxi:x≠i) (h1:Viol σ (x,i)) (h2:Viol σ (i,x)):False:=by
 obtain ⟨s1,s2,e1,n1⟩:=h1
 obtain ⟨t1,t2,e2,n2⟩:=h2
 simp only at e1 n1 e2 n2
 have hx:x∈s2:=by
  have:x∈σ:=by rw [e2];simp
  rw [e1] at this
  rcases List.mem_append.1 this with h | h
  ·exact absurd h n1
  ·rcases List.mem_cons.1 h with h | h
   ·exact absurd h hxi
   ·exact h
 have hi:i∈t2:=by
  have:i∈σ:=by rw [e1];simp
  rw [e2] at this
  rcases List.mem_append.1 this with h | h
  ·exact absurd h n2
  ·rcases List.mem_cons.1 h with h | h
   ·exact absurd h.symm hxi
   ·exact h
 have a1:σ.idxOf i < σ.idxOf x:=x7U hnd (by rw [e1];exact x5A hx)
 have a2:σ.idxOf x < σ.idxOf i:=x7U hnd (by rw [e2];exact x5A hi)
 omega
theorem x9g {σ:List Nat} (hnd:σ.Nodup) {a b c:Nat} (h1:¬ Viol σ (a,b)) (h2:¬ Viol σ (b,c)):¬ Viol σ (a,c):=by
 rintro ⟨s1,s2,e,hn⟩
 simp only at e hn
 have hb:b∈s1:=Classical.byContradiction fun hb=>h2 ⟨s1,s2,e,hb⟩
 obtain ⟨t1,t2,rfl⟩:=List.append_of_mem hb
 refine h1 ⟨t1,t2++c::s2,by rw [e];simp,fun ha=>hn ?_⟩
 simp [ha]
theorem x91 {σ:List Nat} (hnd:σ.Nodup) {N:List (Nat×Nat)} {a b:Nat} (hN:∀ q∈N,¬ Viol σ q) (h:¬ Viol σ (a,b)):∀ q∈xdk N a b,¬ Viol σ q:=by
 intro q hq
 unfold xdk at hq
 rcases List.mem_append.1 hq with hq | hq
 ·obtain ⟨x,hx,hq⟩:=List.mem_flatMap.1 hq
  obtain ⟨y,hy,rfl⟩:=List.mem_map.1 hq
  have h1:¬ Viol σ (x,b):=by
   rcases List.mem_cons.1 hx with rfl | hx
   ·exact h
   ·obtain ⟨p,hp,rfl⟩:=List.mem_map.1 hx
    obtain ⟨hp,e⟩:=List.mem_filter.1 hp
    have e:p.2=a:=by simpa using e
    have:=hN p hp
    rw [show p=(p.1,a) by rw [← e]] at this
    exact x9g hnd this h
  rcases List.mem_cons.1 hy with rfl | hy
  ·exact h1
  ·obtain ⟨p,hp,rfl⟩:=List.mem_map.1 hy
   obtain ⟨hp,e⟩:=List.mem_filter.1 hp
   have e:p.1=b:=by simpa using e
   have:=hN p hp
   rw [show p=(b,p.2) by rw [← e]] at this
   exact x9g hnd h1 this
 ·exact hN q hq
theorem x8n {σ:List Nat} (hnd:σ.Nodup):∀ (k:Nat) {N V:List (Nat×Nat)} {Cs:List (List (Nat×Nat))},taut k N V Cs=true→(∀ q∈N,¬ Viol σ q)→(∀ q∈V,Viol σ q)→∃ c∈Cs,∀ pr∈c,¬ Viol σ pr
 | 0,_,_,_,h,_,_=>by simp [taut] at h
 | k+1,N,V,Cs,h,hN,hV=>by
  unfold taut at h
  rw [Bool.or_eq_true,Bool.or_eq_true] at h
  rcases h with h | h | h
  ·obtain ⟨q,hq,e⟩:=List.any_eq_true.1 h
   exact absurd (hV q hq) (hN q (by simpa using e))
  ·obtain ⟨c,hc,he⟩:=List.any_eq_true.1 h
   exact ⟨c,hc,fun pr hp=>hN pr (by simpa using List.all_eq_true.1 he pr hp)⟩
  ·split at h
   ·rename_i x i r _
    rw [Bool.and_eq_true,Bool.and_eq_true] at h
    by_cases hv:Viol σ (x,i)
    ·have hxi:x≠i:=by simpa using h.2.1
     have hv2:¬ Viol σ (i,x):=fun q=>xjm hnd hxi hv q
     obtain ⟨c,hc,hq⟩:=x8n hnd k h.2.2 (x91 hnd hN hv2) (fun q hq=>by
      rcases List.mem_cons.1 hq with rfl | hq
      ·exact hv
      ·exact hV q hq)
     exact ⟨c,(List.mem_filter.1 hc).1,hq⟩
    ·exact x8n hnd k h.1 (x91 hnd hN hv) hV
   ·simp at h
theorem x9G {quiet:FuncId→Nat} {ops:List Oper} {l:List AOper}:∀ {c:List Nat} {x i:Nat},[x,i].Sublist c→depB ops ops.length i x=true∨x2R quiet (l.getD x default) (l.getD i default)=true∨(x,i)∈x9d quiet ops l c
 | [],_,_,h=>by simp at h
 | y::r,x,i,h=>by
  simp only [x9d,List.mem_append,List.mem_map,List.mem_filter]
  cases h with
  | cons _ h =>
   rcases x9G h with h1 | h1 | h1
   ·exact .inl h1
   ·exact .inr (.inl h1)
   ·exact .inr (.inr (.inr h1))
  | cons_cons _ h =>
   have hi:i∈r:=h.subset (by simp)
   cases hd:depB ops ops.length i y with
   | true=>exact .inl rfl
   | false =>
    cases hcm:x2R quiet (l.getD y default) (l.getD i default) with
    | true=>exact .inr (.inl rfl)
    | false=>exact .inr (.inr (.inl ⟨i,⟨hi,by rw [hd,hcm];rfl⟩,rfl⟩))
section
variable {P:Program} {gl:Nat→Option (List V)} {call:x3T} {base nt:Nat} {quiet:FuncId→Nat}
theorem x9x {listed:Array Bool} {c p r:List Nat} {i:Nat} (hnd:c.Nodup) (hi:i<listed.size) (e:c.filter (fun j=>!listed.getD j true)=p++i::r):c.filter (fun j=>!(listed.setIfInBounds i true).getD j true)=p++r:=by
 have hn:(p++i::r).Nodup:=by rw [← e];exact hnd.sublist List.filter_sublist
 have h1:=List.nodup_append.1 hn
 have h2:=List.nodup_cons.1 h1.2.1
 have e2:c.filter (fun j=>!(listed.setIfInBounds i true).getD j true)=(c.filter (fun j=>!listed.getD j true)).filter (fun j=>j != i):=by
  rw [List.filter_filter]
  refine List.filter_congr fun j _=>?_
  by_cases hj:i=j
  ·subst hj
   simp [hi]
  ·rw [getD_set_ne true hj]
   have:(j != i)=true:=by simpa using fun e=>hj e.symm
   rw [this,Bool.true_and]
 rw [e2,e,List.filter_append,List.filter_cons]
 have hp:p.filter (fun j=>j != i)=p:=List.filter_eq_self.2 fun j hj=>by
  have:j≠i:=fun e=>h1.2.2 j hj i (by simp) e
  simpa using this
 have hr:r.filter (fun j=>j != i)=r:=List.filter_eq_self.2 fun j hj=>by
  have:j≠i:=fun e=>h2.1 (e▸hj)
  simpa using this
 rw [hp,hr]
 simp
theorem xkJ (hq:x1w quiet call) (hc:CallOk P gl call) {ops:Array Oper} {Q:Exit→Act→World→Prop} {f:Nat→AOper} {Cs:List (List Nat)} {cf:List Nat→List (Nat×Nat)} {res:List Nat→Env×Heap}
  (hf:∀ (i:Nat) (o:Oper),ops[i]?=some o→x6L P gl nt ops.toList o (f i))
  (hback:∀ (i:Nat) (o:Oper),ops[i]?=some o→∀ e∈o.after,Region.binds .any e=true→e.on<i)
  (hperm:∀ c∈Cs,c.Nodup∧∀ i,i∈c↔i<ops.size)
  (hcf:∀ c∈Cs,∀ x i,[x,i].Sublist c→depB ops.toList ops.toList.length i x=true∨x2R quiet (f x) (f i)=true∨(x,i)∈cf c)
  (htaut:∀ σ:List Nat,σ.Nodup→(∀ i x,depB ops.toList ops.toList.length i x=true→¬ Viol σ (x,i))→∃ c∈Cs,∀ pr∈cf c,¬ Viol σ pr) :
  ∀ (fuel:Nat) (listed:Array Bool) (σ:List Nat) {G:Tie} {en:Env} {h:Heap} {a:Act} {w:World},
   σ.Nodup→(∀ i x,depB ops.toList ops.toList.length i x=true→¬ Viol σ (x,i))→(∀ i,i∈σ↔i<ops.size∧listed.getD i false=true)→listed.size=ops.size→((List.range ops.size).filter fun j=>!listed.getD j true).length≤fuel →
   (∀ (i:Nat) (o:Oper),ops[i]?=some o→listed.getD i false=true→∀ e∈o.after,Region.binds .any e=true→listed.getD e.on false=true) →
   (∀ c∈Cs,(∀ pr∈cf c,¬ Viol σ pr)→x1i call base ((c.filter fun j=>!listed.getD j true).map f) en h=some (res c)) →
   x0V G gl→x0w G en a.tmps→Rel G h w→base≤h.length→nt≤a.tmps.size →
   (∀ c∈Cs,∀ a' w' G',Reach G w (res c).2 w' G'→x0w G' (res c).1 a'.tmps→a'.tmps.size=a.tmps.size→a'.defers=a.defers→Q .normal a' w')→wpAny P .any ops Q fuel listed a w:=by
 intro fuel
 have memM:∀ (listed:Array Bool) (c:List Nat),c∈Cs→listed.size=ops.size→∀ i,i∈c.filter (fun j=>!listed.getD j true)↔i<ops.size∧listed.getD i true=false:=by
  intro listed c hcs hlen i
  rw [List.mem_filter,(hperm c hcs).2 i]
  simp
 have done:∀ (listed:Array Bool) (σ:List Nat) {G:Tie} {en:Env} {h:Heap} {a:Act} {w:World},σ.Nodup→(∀ i x,depB ops.toList ops.toList.length i x=true→¬ Viol σ (x,i))→listed.size=ops.size →
   (∀ c∈Cs,(∀ pr∈cf c,¬ Viol σ pr)→x1i call base ((c.filter fun j=>!listed.getD j true).map f) en h=some (res c))→x0w G en a.tmps→Rel G h w →
   (∀ c∈Cs,∀ a' w' G',Reach G w (res c).2 w' G'→x0w G' (res c).1 a'.tmps→a'.tmps.size=a.tmps.size→a'.defers=a.defers→Q .normal a' w')→Region.ready .any ops listed=[]→Q .normal a w:=by
  intro listed σ G en h a w hnd hdp hlen hs he R hQ hr
  obtain ⟨c,hcs,hal⟩:=htaut σ hnd hdp
  have hM:=memM listed c hcs hlen
  have hs:=hs c hcs hal
  by_cases hMn:c.filter (fun j=>!listed.getD j true)=[]
  ·rw [hMn] at hs
   simp only [List.map_nil,x1i,Option.some.injEq] at hs
   have e1:en=(res c).1:=by rw [← hs]
   have e2:h=(res c).2:=by rw [← hs]
   exact hQ c hcs a w G (by rw [← e2];exact Reach.refl R) (by rw [← e1];exact he) rfl rfl
  ·exfalso
   obtain ⟨m,hmM,hleast⟩:=x65 hMn
   obtain ⟨hm,hml⟩:=(hM m).1 hmM
   have:m∈Region.ready .any ops listed:=by
    rw [mem_ready]
    refine ⟨hml,ops[m],Array.getElem?_eq_getElem hm,fun e he hb=>?_⟩
    have hlt:=hback m _ (Array.getElem?_eq_getElem hm) e he hb
    cases hv:listed.getD e.on false with
    | true=>rfl
    | false =>
     exfalso
     have hin:e.on∈c.filter (fun j=>!listed.getD j true):=(hM e.on).2 ⟨by omega,by
      have:e.on<listed.size:=by omega
      simp [this] at hv ⊢
      exact hv⟩
     have:=hleast _ hin
     omega
   rw [hr] at this
   simp at this
 induction fuel with
 | zero =>
  intro listed σ G en h a w hnd hdp hσ hlen hfuel down hs hgl he R hb hsz hQ
  have hr:Region.ready .any ops listed=[]:=by
   refine List.eq_nil_iff_forall_not_mem.2 fun i hi=>?_
   rw [mem_ready] at hi
   have hM:(List.range ops.size).filter (fun j=>!listed.getD j true)=[]:=by simpa using hfuel
   have:i∈(List.range ops.size).filter (fun j=>!listed.getD j true):=List.mem_filter.2 ⟨List.mem_range.2 (by have:=x1U hi.1;omega),by rw [hi.1];rfl⟩
   rw [hM] at this
   cases this
  exact ⟨hr,done listed σ hnd hdp hlen hs he R hQ hr⟩
 | succ fuel ih =>
  intro listed σ G en h a w hnd hdp hσ hlen hfuel down hs hgl he R hb hsz hQ
  refine ⟨done listed σ hnd hdp hlen hs he R hQ,fun i hi=>?_⟩
  obtain ⟨hil,o,ho,hall⟩:=mem_ready.1 hi
  have hisz:i<ops.size:=by have:=x1U hil;omega
  have hiσ:i ∉ σ:=fun hc=>by
   have h2:=((hσ i).1 hc).2
   exact x4T h2 hil
  have hnd':(σ++[i]).Nodup:=by
   rw [List.nodup_append]
   refine ⟨hnd,by simp,fun x hx y hy=>?_⟩
   rw [List.mem_singleton] at hy
   subst hy
   exact fun e=>hiσ (e▸hx)
  have hdp':∀ j x,depB ops.toList ops.toList.length j x=true→¬ Viol (σ++[i]) (x,j):=by
   rintro j x hd ⟨s1,s2,e,hn⟩
   simp only at e hn
   rcases List.eq_nil_or_concat s2 with rfl | ⟨s3,y,rfl⟩
   ·obtain ⟨e1,e2⟩:=List.append_inj' (s₁:=σ) (t₁:=[i]) (s₂:=s1) (t₂:=[j]) e rfl
    injection e2 with e2
    subst e1 e2
    have h1:=x3G down _ _ _ o ho hall hd
    exact hn ((hσ x).2 ⟨by have:=x3Y h1;omega,h1⟩)
   ·rw [List.concat_eq_append,← List.cons_append,← List.append_assoc] at e
    obtain ⟨e1,_⟩:=List.append_inj' e rfl
    exact hdp j x hd ⟨s1,s3,e1,hn⟩
  -- one candidate takes the step
  have one:∀ c∈Cs,(∀ pr∈cf c,¬ Viol (σ++[i]) pr)→∃ v h1,x0M call base (f i) en h=some (v,h1)∧x1i call base ((c.filter fun j=>!(listed.setIfInBounds i true).getD j true).map f) (en.put (f i).dst v) h1=some (res c):=by
   intro c hcs hal
   have hM:=memM listed c hcs hlen
   have hs:=hs c hcs fun pr hp hv=>hal pr hp (hv.app [i])
   have him:i∈c.filter (fun j=>!listed.getD j true):=(hM i).2 ⟨hisz,hil⟩
   obtain ⟨p,r,e⟩:=List.append_of_mem him
   have hcm:∀ x∈p.map f,x2R quiet x (f i)=true:=by
    intro y hy
    obtain ⟨x,hx,rfl⟩:=List.mem_map.1 hy
    have hsub:[x,i].Sublist c:=(x5k (r:=r) (i:=i) hx).trans (by rw [← e];exact List.filter_sublist)
    have hxu:=((hM x).1 (by rw [e];simp [hx])).2
    rcases hcf c hcs x i hsub with hd | hd | hd
    ·exfalso
     have h1:=x3G down _ _ _ o ho hall hd
     exact x4T h1 hxu
    ·exact hd
    ·exfalso
     refine hal (x,i) hd ⟨σ,[],rfl,fun hxs=>?_⟩
     exact x4T ((hσ x).1 hxs).2 hxu
   rw [e,List.map_append,List.map_cons] at hs
   have hs2:=xem hq hcm hs
   rw [x0i,Option.bind_eq_some_iff] at hs2
   obtain ⟨⟨v,h1⟩,e1,e2⟩:=hs2
   refine ⟨v,h1,e1,?_⟩
   rw [x9x (hperm c hcs).1 (by omega) e,List.map_append]
   exact e2
  obtain ⟨c0,hc0,hal0⟩:=htaut _ hnd' hdp'
  obtain ⟨v,h1,e1,_⟩:=one c0 hc0 hal0
  refine x7P hc ho (hf i o ho) hgl he R hb hsz e1 fun a' w' G' hreach hb' he' q1 q2=>?_
  refine ih (listed.setIfInBounds i true) (σ++[i]) hnd' hdp' (fun x=>?_) (by simpa using hlen) ?_ ?_ (fun c hcs hal=>?_) (hgl.ext hreach.ext) he' hreach.rel hb' (by omega) fun c hcs a'' w'' G'' hreach' he'' r1 r2=>hQ c hcs a'' w'' G'' (hreach.trans hreach') he'' (r1.trans q1) (r2.trans q2)
  ·rw [List.mem_append,List.mem_singleton,hσ x]
   by_cases hx:i=x
   ·subst hx
    have:i<listed.size:=by omega
    simp [this,hisz]
   ·rw [getD_set_ne false hx]
    constructor
    ·rintro (h | h)
     ·exact h
     ·exact absurd h.symm hx
    ·exact .inl
  ·have him:i∈(List.range ops.size).filter (fun j=>!listed.getD j true):=List.mem_filter.2 ⟨List.mem_range.2 hisz,by rw [hil];rfl⟩
   obtain ⟨p,r,e⟩:=List.append_of_mem him
   rw [x9x List.nodup_range (by omega) e]
   rw [e] at hfuel
   simp at hfuel ⊢
   omega
  ·intro x ox hox hxl e hm hbd
   by_cases hx:i=x
   ·subst hx
    rw [ho] at hox
    injection hox with hox
    subst hox
    exact getD_set_true (hall e hm hbd)
   ·rw [getD_set_ne false hx] at hxl
    exact getD_set_true (down x ox hox hxl e hm hbd)
  ·obtain ⟨v',h1',e1',e2'⟩:=one c hcs hal
   rw [e1] at e1'
   injection e1' with e1'
   injection e1' with ev eh
   subst ev eh
   exact e2'
end
end
section
open Go.RowKit (Below)
section
variable {P:Program} {gl:Nat→Option (List V)} {call:x3T} {base n nt:Nat}
theorem x8Z {quiet:FuncId→Nat} (hm:P.follows .mixedOrders=true) (hq:x1w quiet call) (hc:CallOk P gl call) {id:Nat} {ops:Array Oper} {aops B:List AOper} (pi:List Nat) (hco:x5h P gl nt ops.toList ops.toList=some aops)
  (hB:B.length=aops.length∧∀ (i:Nat) (x y:AOper),B[i]?=some x→aops[i]?=some y→x1Q x y) (hok:x8z quiet ops.toList B pi=true) :
  x7Y P gl base nt (.region id ops true) (fun en h=>(x1i call base (x0U B pi) en h).map fun r=>(Ex.normal,r.1,r.2)):=by
 intro G en en' h h' a w ex Q hgl he R hb hsz hs hQ
 simp only [Option.map_eq_some_iff,Prod.mk.injEq] at hs
 obtain ⟨⟨en1,h1⟩,e1,rfl,rfl,rfl⟩:=hs
 have hall:=x2z (P:=P) (gl:=gl) (nt:=nt) (all:=ops.toList) 0 hco (fun j o hj=>by simpa using hj)
 have hlen:aops.length=ops.size:=by
  have:=hall.length
  simpa using this
 simp only [x8z,Bool.and_eq_true,List.all_eq_true,List.mem_range,beq_iff_eq,Array.length_toList] at hok
 obtain ⟨⟨⟨⟨hpairs,hpl⟩,hnd⟩,hlt⟩,hrest⟩:=hok
 have hnd:=x4M hnd
 have hlt:∀ i∈pi,i<ops.size:=fun i hi=>by simpa using hlt i hi
 have hpairs':=x7R hpairs
 refine wp_region_any hm (xn0 hq hc (f:=fun i=>B.getD i default) ?_ ?_ ops.size (Array.replicate ops.size false) pi hnd hpairs' ?_ (by simp) (by omega) ?_ hgl he R.drew hb hsz e1 ?_)
 ·intro i o ho
  have hi:i<ops.size:=(Array.getElem?_eq_some_iff.1 ho).1
  obtain ⟨ao,h1,o',ho',hco'⟩:=hall.get i i (by simp [hi])
  rw [Array.getElem?_toList,ho] at ho'
  injection ho' with ho'
  subst ho'
  have hib:i<B.length:=by omega
  refine ⟨ao,hco',?_⟩
  have:=hB.2 i B[i] ao (List.getElem?_eq_getElem hib) h1
  simpa [List.getD,hib] using this
 ·intro i o ho e hm hbd
  have hi:i<ops.size:=(Array.getElem?_eq_some_iff.1 ho).1
  have h1:=(hrest i hi).2
  rw [Array.getElem?_toList,ho] at h1
  simp only [List.all_eq_true,Array.mem_toList_iff,Bool.or_eq_true,Bool.not_eq_true',decide_eq_true_eq] at h1
  rcases h1 e hm with h1 | h1
  ·rw [hbd] at h1;simp at h1
  ·exact h1
 ·intro i
  constructor
  ·intro hi;exact ⟨hlt i hi,by simp [hlt i hi]⟩
  ·rintro ⟨hi,_⟩;simpa using (hrest i hi).1
 ·intro i o ho hl
  have hi:i<ops.size:=(Array.getElem?_eq_some_iff.1 ho).1
  simp [hi] at hl
 ·intro a' w' G' hreach he' q1 q2
  exact hQ a' w' G' ((⟨Ext.refl G,R.drew,⟨⟨rfl,rfl,rfl,Nat.le_refl _,fun _ _=>rfl⟩,fun _ _=>rfl⟩⟩:Reach G w h _ G).trans hreach) he' q1 q2
theorem xia {quiet:FuncId→Nat} (hm:P.follows .mixedOrders=true) (hq:x1w quiet call) (hc:CallOk P gl call) {id:Nat} {ops:Array Oper} {aops B:List AOper} (pi:List Nat) (hco:x5h P gl nt ops.toList ops.toList=some aops)
  (hB:B.length=aops.length∧∀ (i:Nat) (x y:AOper),B[i]?=some x→aops[i]?=some y→x1Q x.plain y) (hok:xbM quiet ops.toList B pi=true) :
  x7Y P gl base nt (.region id ops true) (fun en h=>(x1i call base (x0U B pi) en h).map fun r=>(Ex.normal,r.1,r.2)):=by
 intro G en en' h h' a w ex Q hgl he R hb hsz hs hQ
 simp only [Option.map_eq_some_iff,Prod.mk.injEq] at hs
 obtain ⟨⟨en1,h1⟩,e1,rfl,rfl,rfl⟩:=hs
 have hall:=x2z (P:=P) (gl:=gl) (nt:=nt) (all:=ops.toList) 0 hco (fun j o hj=>by simpa using hj)
 have hlen:aops.length=ops.size:=by
  have:=hall.length
  simpa using this
 simp only [xbM,Bool.and_eq_true,List.all_eq_true,List.mem_range,beq_iff_eq,Array.length_toList] at hok
 obtain ⟨⟨⟨⟨hpairs,hpl⟩,hnd⟩,hlt⟩,hrest⟩:=hok
 have hnd:=x4M hnd
 have hlt:∀ i∈pi,i<ops.size:=fun i hi=>by simpa using hlt i hi
 have hpairs':=x7e hpairs
 refine wp_region_any hm (xkI hq hc (f:=fun i=>B.getD i default) ?_ ?_ ops.size (Array.replicate ops.size false) pi hnd hpairs' ?_ (by simp) (by omega) ?_ hgl he R.drew hb hsz e1 ?_)
 ·intro i o ho
  have hi:i<ops.size:=(Array.getElem?_eq_some_iff.1 ho).1
  obtain ⟨ao,h1,o',ho',hco'⟩:=hall.get i i (by simp [hi])
  rw [Array.getElem?_toList,ho] at ho'
  injection ho' with ho'
  subst ho'
  have hib:i<B.length:=by omega
  refine ⟨ao,hco',?_⟩
  have:=hB.2 i B[i] ao (List.getElem?_eq_getElem hib) h1
  simpa [List.getD,hib] using this
 ·intro i o ho e hm hbd
  have hi:i<ops.size:=(Array.getElem?_eq_some_iff.1 ho).1
  have h1:=(hrest i hi).2
  rw [Array.getElem?_toList,ho] at h1
  simp only [List.all_eq_true,Array.mem_toList_iff,Bool.or_eq_true,Bool.not_eq_true',decide_eq_true_eq] at h1
  rcases h1 e hm with h1 | h1
  ·rw [hbd] at h1;simp at h1
  ·exact h1
 ·intro i
  constructor
  ·intro hi;exact ⟨hlt i hi,by simp [hlt i hi]⟩
  ·rintro ⟨hi,_⟩;simpa using (hrest i hi).1
 ·intro i o ho hl
  have hi:i<ops.size:=(Array.getElem?_eq_some_iff.1 ho).1
  simp [hi] at hl
 ·intro a' w' G' hreach he' q1 q2
  exact hQ a' w' G' ((⟨Ext.refl G,R.drew,⟨⟨rfl,rfl,rfl,Nat.le_refl _,fun _ _=>rfl⟩,fun _ _=>rfl⟩⟩:Reach G w h _ G).trans hreach) he' q1 q2
theorem xbl {all:List Oper} {o:Oper} {ao:AOper} (h:x2Z P gl nt all o=some ao) {f:Opd} {args:List Opd} {ts:List Nat}:ao.op≠.callK f args ts:=by
 intro e
 unfold x2Z at h
 have hop:ao.op=x5O P gl o.op:=by
  simp only at h
  split at h
  ·split at h
   ·injection h with h;rw [← h]
   ·simp only [Option.map_eq_some_iff] at h
    obtain ⟨d,_,rfl⟩:=h
    rfl
  ·simp at h
 rw [e] at hop
 unfold x5O at hop
 cases hcp:x2Q P gl o.op with
 | none=>rw [hcp] at hop;simp at hop
 | some op=>rw [hcp] at hop;simp only [Option.getD_some] at hop;subst hop;exact x9H hcp
theorem xg4 {quiet:FuncId→Nat} {ops:List Oper} {l:List AOper} {pi:List Nat} (hoff:∀ (i:Nat) (y:AOper),l[i]?=some y→∀ f args ts,y.op≠.callK f args ts) :
  (x9v quiet ops l pi).length=l.length∧∀ (i:Nat) (x y:AOper),(x9v quiet ops l pi)[i]?=some x→l[i]?=some y→x1Q x.plain y:=by
 refine ⟨by simp [x9v],fun i x y h1 h2=>?_⟩
 have hi:i<l.length:=(List.getElem?_eq_some_iff.1 h2).1
 have hy:l.getD i default=y:=by simp [List.getD,h2]
 simp only [x9v,List.getElem?_map,List.getElem?_range hi,Option.map_some,Option.some.injEq,hy] at h1
 subst h1
 have hno:=hoff i y h2
 have:(xk2 quiet ops l pi i y).plain=y:=by
  obtain ⟨dst,op,g,off⟩:=y
  unfold xk2
  simp only
  split
  ·split<;>rfl
  ·simp only [AOper.plain]
   cases op
   case callK f args ts _=>exact absurd rfl (hno f args ts)
   all_goals rfl
 rw [this]
 exact x1Q.refl y
theorem x8y {quiet:FuncId→Nat} {ops:List Oper} {l:List AOper} {late:List Nat}:∀ {pi pre:List Nat},xcR quiet ops l late pre pi=true→∀ (p r:List Nat) (i:Nat),pi=p++i::r→late.contains i=true →
  ∀ j∈r,x7p quiet l i j=true∨∀ x∈pre++p,x7p quiet l x i=true∨depB ops ops.length j x=true
 | [],_,_,p,r,i,e,_=>by simp at e
 | m::pi,pre,h,p,r,i,e,hl=>by
  simp only [xcR,Bool.and_eq_true,Bool.or_eq_true,Bool.not_eq_true',List.all_eq_true] at h
  cases p with
  | nil =>
   simp only [List.nil_append,List.cons.injEq] at e
   obtain ⟨rfl,rfl⟩:=e
   intro j hj
   rcases h.1 with h1 | h1
   ·rw [hl] at h1;simp at h1
   ·rcases h1 j hj with h2 | h2
    ·exact .inl h2
    ·exact .inr fun x hx=>h2 x (by simpa using hx)
  | cons q p =>
   simp only [List.cons_append,List.cons.injEq] at e
   obtain ⟨rfl,rfl⟩:=e
   intro j hj
   have:=x8y h.2 p r i rfl hl j hj
   simpa using this
theorem x7d {quiet:FuncId→Nat} {ops:List Oper} {l:List AOper} {late:List Nat}:∀ {pi:List Nat},x8f quiet ops l late pi=true →
  pi.Pairwise fun x i=>depB ops ops.length i x=true∨x7p quiet l x i=true∨(late.contains i=true∧xaQ l x i=true)
 | [],_=>List.Pairwise.nil
 | x::r,h=>by
  simp only [x8f,Bool.and_eq_true,List.all_eq_true,Bool.or_eq_true] at h
  refine List.Pairwise.cons (fun i hi=>?_) (x7d h.2)
  rcases h.1 i hi with (h1 | h1) | h1
  ·exact .inl h1
  ·exact .inr (.inl h1)
  ·exact .inr (.inr h1)
theorem x7H {quiet:FuncId→Nat} {l:List AOper} {x i:Nat} (h:x7p quiet l x i=true):x2R quiet (l.getD x default) (l.getD i default)=true:=by
 unfold x7p at h
 split at h
 ·rename_i a b ha hb
  simpa [List.getD,ha,hb] using h
 ·simp at h
theorem xdW {l:List AOper} {x i:Nat} (h:xaQ l x i=true):xah (l.getD x default) (l.getD i default)=true:=by
 unfold xaQ at h
 split at h
 ·rename_i a b ha hb
  simpa [List.getD,ha,hb] using h
 ·simp at h
theorem xf0 {M:List Nat} (hnd:M.Nodup) {i j:Nat} (h:[i,j].Sublist M):∃ p r,M=p++i::r∧j∈r:=by
 have hi:i∈M:=h.subset (by simp)
 obtain ⟨p,r,rfl⟩:=List.append_of_mem hi
 refine ⟨p,r,rfl,?_⟩
 have hj:j∈p++i::r:=h.subset (by simp)
 have hlt:=x7U hnd h
 rcases List.mem_append.1 hj with hj | hj
 ·exfalso
  have:=x7U hnd (x5k (r:=r) (i:=i) hj)
  omega
 ·rcases List.mem_cons.1 hj with rfl | hj
  ·omega
  ·exact hj
theorem xdy {p r:List Nat} {x i:Nat} (hnd:(p++i::r).Nodup) (h:[x,i].Sublist (p++i::r)):x∈p:=by
 have hx:x∈p++i::r:=h.subset (by simp)
 have hlt:=x7U hnd h
 rcases List.mem_append.1 hx with hx | hx
 ·exact hx
 ·exfalso
  rcases List.mem_cons.1 hx with rfl | hx
  ·omega
  ·have:=x7U hnd (x5A (p:=p) (i:=i) hx)
   omega
theorem xde {quiet:FuncId→Nat} (hm:P.follows .mixedOrders=true) (hq:x1w quiet call) (hc:CallOk P gl call) {id:Nat} {ops:Array Oper} {aops B:List AOper} (late pi:List Nat) (hco:x5h P gl nt ops.toList ops.toList=some aops)
  (hB:B.length=aops.length∧∀ (i:Nat) (x y:AOper),B[i]?=some x→aops[i]?=some y→x1Q x y∧(x.op.lay=true→x=y)) (hok:xa7 quiet ops.toList B late pi=true):x7Y P gl base nt (.region id ops true) (fun en h=>(x1i call base (x0U B pi) en h).map fun r=>(Ex.normal,r.1,r.2)):=by
 intro G en en' h h' a w ex Q hgl he R hb hsz hs hQ
 simp only [Option.map_eq_some_iff,Prod.mk.injEq] at hs
 obtain ⟨⟨en1,h1⟩,e1,rfl,rfl,rfl⟩:=hs
 have hall:=x2z (P:=P) (gl:=gl) (nt:=nt) (all:=ops.toList) 0 hco (fun j o hj=>by simpa using hj)
 simp only [xa7,Bool.and_eq_true,List.all_eq_true,List.mem_range,beq_iff_eq,Array.length_toList] at hok
 obtain ⟨⟨⟨⟨⟨hpairs,hlates⟩,hpl⟩,hnd⟩,hlt⟩,hrest⟩:=hok
 have hnd:=x4M hnd
 have hlt:∀ i∈pi,i<ops.size:=fun i hi=>by simpa using hlt i hi
 have hpw:∀ x i,[x,i].Sublist pi→depB ops.toList ops.toList.length i x=true∨x7p quiet B x i=true∨(late.contains i=true∧xaQ B x i=true):=fun x i hxi=>List.pairwise_iff_forall_sublist.1 (x7d hpairs) hxi
 refine wp_region_any hm (xkK (base:=base) (quiet:=quiet) (nt:=nt) (gl:=gl) (call:=call) hq hc (f:=fun i=>B.getD i default) (late:=fun i=>late.contains i) (en':=en1) (h':=h1) ?_ ?_ ops.size (Array.replicate ops.size false) pi (M:=pi) (Pd:=[]) (G:=G) (en:=en) (h:=h)
  ⟨by simp,hnd,fun x i hxi=>?_,fun i j hij hl=>?_,fun i=>?_,fun i k hik=>by simp at hik,List.Pairwise.nil,hgl,he,R.drew,hb,hsz,e1⟩ (by omega) ?_ ?_ ?_)
 ·intro i o ho
  have hi:i<ops.size:=(Array.getElem?_eq_some_iff.1 ho).1
  obtain ⟨ao,h1,o',ho',hco'⟩:=hall.get i i (by simp [hi])
  rw [Array.getElem?_toList,ho] at ho'
  injection ho' with ho'
  subst ho'
  have hib:i<B.length:=by
   have:=(List.getElem?_eq_some_iff.1 h1).1
   omega
  obtain ⟨hst,hly⟩:=hB.2 i B[i] ao (List.getElem?_eq_getElem hib) h1
  have e:B.getD i default=B[i]:=by simp [List.getD,hib]
  show x6L P gl nt ops.toList o (B.getD i default)∧((B.getD i default).op.lay=true→x2Z P gl nt ops.toList o=some (B.getD i default))
  rw [e]
  exact ⟨⟨ao,hco',hst⟩,fun hl=>by rw [hly hl];exact hco'⟩
 ·intro i o ho e hm hbd
  have hi:i<ops.size:=(Array.getElem?_eq_some_iff.1 ho).1
  have h1:=(hrest i hi).2
  rw [Array.getElem?_toList,ho] at h1
  simp only [List.all_eq_true,Array.mem_toList_iff,Bool.or_eq_true,Bool.not_eq_true',decide_eq_true_eq] at h1
  rcases h1 e hm with h1 | h1
  ·rw [hbd] at h1;simp at h1
  ·exact h1
 ·rcases hpw x i hxi with h2 | h2 | ⟨h2,h3⟩
  ·exact .inl h2
  ·exact .inr (.inl (x7H h2))
  ·exact .inr (.inr ⟨h2,xdW h3⟩)
 ·obtain ⟨p,r,e,hj⟩:=xf0 hnd hij
  rcases x8y hlates p r i e hl j hj with h2 | h2
  ·exact .inl (x7H h2)
  ·right
   intro x hx
   rw [e] at hx hnd
   rcases h2 x (by simpa using xdy hnd hx) with h3 | h3
   ·exact .inl (x7H h3)
   ·exact .inr h3
 ·constructor
  ·intro hi;exact ⟨hlt i hi,.inl (by simp [hlt i hi])⟩
  ·rintro ⟨hi,_⟩;simpa using (hrest i hi).1
 ·intro i hi _
  simpa using (hrest i hi).1
 ·intro i o ho hl
  have hi:i<ops.size:=(Array.getElem?_eq_some_iff.1 ho).1
  simp [hi] at hl
 ·intro a' w' G' hreach he' q1 q2
  exact hQ a' w' G' ((⟨Ext.refl G,R.drew,⟨⟨rfl,rfl,rfl,Nat.le_refl _,fun _ _=>rfl⟩,fun _ _=>rfl⟩⟩:Reach G w h _ G).trans hreach) he' q1 q2
theorem xib {quiet:FuncId→Nat} (hm:P.follows .mixedOrders=true) (hq:x1w quiet call) (hc:CallOk P gl call) {id:Nat} {ops:Array Oper} {aops:List AOper} {c0:List Nat} {rest:List (List Nat)} {ps:List (List Nat×List Nat)} (hco:x5h P gl nt ops.toList ops.toList=some aops)
  (hok:xa6 quiet ops.toList aops (c0::rest)=true):x7Y P gl base nt (.region id ops true) (fun en h=>evC call base n (.regionM (x0U aops c0) (rest.map (x0U aops)) ps) en h):=by
 intro G en en' h h' a w ex Q hgl he R hb hsz hs hQ
 simp only [evC] at hs
 split at hs
 rotate_left
 ·simp at hs
 rename_i s0 e0
 split at hs
 rotate_left
 ·simp at hs
 rename_i hall0
 simp only [Option.some.injEq,Prod.mk.injEq] at hs
 obtain ⟨rfl,rfl,rfl⟩:=hs
 have hall:=x2z (P:=P) (gl:=gl) (nt:=nt) (all:=ops.toList) 0 hco (fun j o hj=>by simpa using hj)
 have hlen:aops.length=ops.size:=by
  have:=hall.length
  simpa using this
 simp only [xa6,Bool.and_eq_true,List.all_eq_true,List.mem_range,Array.length_toList] at hok
 obtain ⟨hords,htaut,hrest⟩:=hok
 have hperm:∀ c∈c0::rest,c.Nodup∧∀ i,i∈c↔i<ops.size:=by
  intro c hcs
  have:=hords c hcs
  simp only [xfl,Bool.and_eq_true,List.all_eq_true,decide_eq_true_eq,List.mem_range,Array.length_toList] at this
  obtain ⟨h1,h2,h3⟩:=this
  exact ⟨x4M h2,fun i=>⟨h3 i,fun hi=>by simpa using h1 i hi⟩⟩
 have hdst:∀ c∈c0::rest,∀ t,t ∉ xbj (x0U aops c0)→∀ x∈x0U aops c,x.dst≠some t:=by
  intro c hcs t ht x hx e
  obtain ⟨i,hi,rfl⟩:=List.mem_map.1 hx
  refine ht (List.mem_filterMap.2 ⟨_,List.mem_map.2 ⟨i,?_,rfl⟩,e⟩)
  exact ((hperm c0 (by simp)).2 i).2 (((hperm c hcs).2 i).1 hi)
 have hiso:∀ c∈rest,∃ s1,x1i call base (x0U aops c) en h=some s1∧∃ p∈ps,isoB p.1 p.2 (xbj (x0U aops c0)) h s1 s0=true:=by
  intro c hcs
  have:=List.all_eq_true.1 hall0 (x0U aops c) (List.mem_map.2 ⟨c,hcs,rfl⟩)
  split at this
  ·rename_i s1 e1
   exact ⟨s1,e1,List.any_eq_true.1 this⟩
  ·simp at this
 refine wp_region_any hm (xkJ hq hc (f:=fun i=>aops.getD i default) (Cs:=c0::rest) (cf:=fun c=>x9d quiet ops.toList aops c) (res:=fun c=>(x1i call base (x0U aops c) en h).getD s0) ?_ ?_ hperm (fun c _ x i hxi=>x9G hxi) (fun σ hσ hdp=>?_) ops.size (Array.replicate ops.size false) [] List.nodup_nil (fun i x _=>?_) ?_ (by simp) ?_ ?_ ?_ hgl he R.drew hb hsz ?_)
 ·intro i o ho
  have hi:i<ops.size:=(Array.getElem?_eq_some_iff.1 ho).1
  obtain ⟨ao,h1,o',ho',hco'⟩:=hall.get i i (by simp [hi])
  rw [Array.getElem?_toList,ho] at ho'
  injection ho' with ho'
  subst ho'
  refine ⟨ao,hco',?_⟩
  have:aops.getD i default=ao:=by simp [List.getD,h1]
  show x1Q (aops.getD i default) ao
  rw [this]
  exact x1Q.refl _
 ·intro i o ho e hm hbd
  have hi:i<ops.size:=(Array.getElem?_eq_some_iff.1 ho).1
  have h1:=hrest i hi
  rw [Array.getElem?_toList,ho] at h1
  simp only [List.all_eq_true,Array.mem_toList_iff,Bool.or_eq_true,Bool.not_eq_true',decide_eq_true_eq] at h1
  rcases h1 e hm with h1 | h1
  ·rw [hbd] at h1;simp at h1
  ·exact h1
 ·have:=x8n hσ 60 htaut (fun q hq=>by
   unfold xdf at hq
   obtain ⟨x,hx,hq⟩:=List.mem_flatMap.1 hq
   obtain ⟨i,hi,rfl⟩:=List.mem_map.1 hq
   exact hdp i x (List.mem_filter.1 hi).2) (fun q hq=>by cases hq)
  obtain ⟨c',hc',hv⟩:=this
  obtain ⟨c,hcs,rfl⟩:=List.mem_map.1 hc'
  exact ⟨c,hcs,hv⟩
 ·rintro ⟨s1,s2,e,_⟩
  simp at e
 ·intro i
  constructor
  ·intro hi;cases hi
  ·rintro ⟨hi,hl⟩
   simp [hi] at hl
 ·exact Nat.le_trans (List.length_filter_le _ _) (by simp)
 ·intro i o ho hl
  have hi:i<ops.size:=(Array.getElem?_eq_some_iff.1 ho).1
  simp [hi] at hl
 ·intro c hcs _
  have e:c.filter (fun j=>!(Array.replicate ops.size false).getD j true)=c:=List.filter_eq_self.2 fun j hj=>by
   have:=((hperm c hcs).2 j).1 hj
   simp [this]
  rw [e]
  show x1i call base (x0U aops c) en h=_
  rcases List.mem_cons.1 hcs with rfl | hcs
  ·rw [e0];rfl
  ·obtain ⟨s1,e1,_⟩:=hiso c hcs
   rw [e1];rfl
 ·intro c hcs a' w' G' hreach he' q1 q2
  have hst:Reach G w h w.drew G:=⟨Ext.refl G,R.drew,⟨⟨rfl,rfl,rfl,Nat.le_refl _,fun _ _=>rfl⟩,fun _ _=>rfl⟩⟩
  rcases List.mem_cons.1 hcs with rfl | hcs'
  ·rw [e0] at hreach he'
   exact hQ a' w' G' (hst.trans hreach) he' q1 q2
  ·obtain ⟨s1,e1,p,hp,hi⟩:=hiso c hcs'
   rw [e1] at hreach he'
   obtain ⟨G0,x0,R0,he0⟩:=xjW (s1:=s1) (s0:=s0) R he hreach.ext hreach.rel he' (fun t ht=>x7l (en1:=s1.1) (h1:=s1.2) e1 t (hdst c hcs t ht)) (fun t ht=>x7l (en1:=s0.1) (h1:=s0.2) e0 t (hdst c0 (by simp) t ht)) hi
   exact hQ a' w' G0 (hst.trans ⟨x0,R0,hreach.below⟩) he0 q1 q2
theorem x7M {quiet:FuncId→Nat} (hm:P.follows .mixedOrders=true) (hq:x1w quiet call) (hc:CallOk P gl call) {id:Nat} {ops:Array Oper} {aops:List AOper} (hco:x5h P gl nt ops.toList ops.toList=some aops) :
  x7Y P gl base nt (.region id ops true) (fun en h=>evC call base n (x7b quiet ops.toList aops) en h):=by
 intro G en en' h h' a w ex Q hgl he R hb hsz hs hQ
 simp only [x7b] at hs
 split at hs
 ·simp [evC] at hs
 ·split at hs
  ·split at hs
   ·rename_i hok
    exact xib hm hq hc hco hok hgl he R hb hsz hs hQ
   ·simp [evC] at hs
  ·simp [evC] at hs
theorem xkx {quiet:FuncId→Nat} {frz:Bool} (hm:P.follows .mixedOrders=true) (hq:x1w quiet call) (hc:CallOk P gl call) :
  ∀ {c:Code} {ac:ACode},comp P gl quiet frz nt c=some ac→x7Y P gl base nt c (fun en h=>evC call base n ac en h):=by
 intro c
 induction c with
 | skip =>
  intro ac hco G en en' h h' a w ex Q hgl he R hb hsz hs hQ
  simp only [comp,Option.some.injEq] at hco
  subst hco
  simp only [evC,Option.some.injEq,Prod.mk.injEq] at hs
  obtain ⟨rfl,rfl,rfl⟩:=hs
  exact wp_skip (hQ a w G (Reach.refl R) he rfl rfl)
 | ret =>
  intro ac hco G en en' h h' a w ex Q hgl he R hb hsz hs hQ
  simp only [comp,Option.some.injEq] at hco
  subst hco
  simp only [evC,Option.some.injEq,Prod.mk.injEq] at hs
  obtain ⟨rfl,rfl,rfl⟩:=hs
  exact wp_ret (hQ a w G (Reach.refl R) he rfl rfl)
 | exit id =>
  intro ac hco G en en' h h' a w ex Q hgl he R hb hsz hs hQ
  simp only [comp,Option.some.injEq] at hco
  subst hco
  simp only [evC,Option.some.injEq,Prod.mk.injEq] at hs
  obtain ⟨rfl,rfl,rfl⟩:=hs
  exact wp_exit (hQ a w G (Reach.refl R) he rfl rfl)
 | seq x y ihx ihy =>
  intro ac hco G en en' h h' a w ex Q hgl he R hb hsz hs hQ
  simp only [comp,Option.bind_eq_some_iff,Option.map_eq_some_iff] at hco
  obtain ⟨ax,hx,ay,hy,rfl⟩:=hco
  simp only [evC] at hs
  refine wp_seq ?_
  split at hs
  ·rename_i en1 h1 e1
   refine ihx hx hgl he R hb hsz e1 fun a' w' G' hreach he' q1 q2=>?_
   refine ihy hy (hgl.ext hreach.ext) he' hreach.rel (Nat.le_trans hb (x3k hc hb e1).1) (by omega) hs fun a'' w'' G'' hreach' he'' r1 r2=>?_
   exact hQ a'' w'' G'' (hreach.trans hreach') he'' (r1.trans q1) (r2.trans q2)
  ·rename_i hno
   refine ihx hx hgl he R hb hsz hs fun a' w' G' hreach he' q1 q2=>?_
   have:=hQ a' w' G' hreach he' q1 q2
   cases ex with
   | normal=>exact absurd hs (hno en' h')
   | exit id=>exact this
   | ret=>exact this
 | cond cnd x y ihx ihy =>
  intro ac hco G en en' h h' a w ex Q hgl he R hb hsz hs hQ
  simp only [comp,Option.bind_eq_some_iff,Option.map_eq_some_iff] at hco
  obtain ⟨cc,hcc,ax,hx,ay,hy,rfl⟩:=hco
  simp only [evC] at hs
  split at hs
  ·rename_i t ht
   have hrep:=x0l hgl he hcc
   rw [ht] at hrep
   refine wp_cond (t:=t) hrep.sc_inv ?_
   split at hs
   ·rename_i htt
    rw [if_pos htt]
    exact ihx hx hgl he R hb hsz hs hQ
   ·rename_i htt
    rw [if_neg htt]
    exact ihy hy hgl he R hb hsz hs hQ
  ·simp at hs
 | block id x ih =>
  intro ac hco G en en' h h' a w ex Q hgl he R hb hsz hs hQ
  simp only [comp,Option.map_eq_some_iff] at hco
  obtain ⟨ax,hx,rfl⟩:=hco
  simp only [evC] at hs
  refine wp_block ?_
  split at hs
  ·rename_i i en1 h1 e1
   refine ih hx hgl he R hb hsz e1 fun a' w' G' hreach he' q1 q2=>?_
   simp only [Ex.toExit,Exit.inBlock]
   split at hs
   ·rename_i hi
    rw [if_pos hi]
    simp only [Option.some.injEq,Prod.mk.injEq] at hs
    obtain ⟨rfl,rfl,rfl⟩:=hs
    exact hQ a' w' G' hreach he' q1 q2
   ·rename_i hi
    rw [if_neg hi]
    simp only [Option.some.injEq,Prod.mk.injEq] at hs
    obtain ⟨rfl,rfl,rfl⟩:=hs
    exact hQ a' w' G' hreach he' q1 q2
  ·rename_i hno
   refine ih hx hgl he R hb hsz hs fun a' w' G' hreach he' q1 q2=>?_
   have:=hQ a' w' G' hreach he' q1 q2
   cases ex with
   | normal=>exact this
   | exit i=>exact absurd hs (hno i en' h')
   | ret=>exact this
 | loop x ih =>
  intro ac hco G en en' h h' a w ex Q hgl he R hb hsz hs hQ
  simp only [comp,Option.map_eq_some_iff] at hco
  obtain ⟨ax,hx,rfl⟩:=hco
  simp only [evC] at hs
  exact wp_loop_rounds n (xfP (ih hx) (fun _ _ _ _ _ hb e=>x3k hc hb e) n hgl he R hb hsz hs hQ)
 | region id ops draw =>
  intro ac hco G en en' h h' a w ex Q hgl he R hb hsz hs hQ
  simp only [comp,Option.bind_eq_some_iff,Option.some.injEq] at hco
  obtain ⟨aops,hx,rfl⟩:=hco
  cases frz with
  | true =>
   simp only [if_true] at hs
   have fin:∀ {B:List AOper},evC call base n (.region B) en h=some (ex,en',h')→(x1i call base B en h).map (fun r=>(Ex.normal,r.1,r.2))=some (ex,en',h'):=by
    intro B e
    simp only [evC] at e
    split at e
    ·rename_i en1 h1 e1
     rw [e1];exact e
    ·simp at e
   have hall:=x2z (P:=P) (gl:=gl) (nt:=nt) (all:=ops.toList) 0 hx (fun j o hj=>by simpa using hj)
   have hlen:aops.length=ops.toList.length:=by
    have:=hall.length
    simpa using this
   have hoff:∀ (i:Nat) (y:AOper),aops[i]?=some y→y.off=[]:=by
    intro i y hy
    have hi:i<ops.toList.length:=by
     have:=(List.getElem?_eq_some_iff.1 hy).1
     omega
    obtain ⟨y',hy',o,_,hco⟩:=hall.get i i (by rw [List.getElem?_range' hi];simp)
    rw [hy] at hy'
    injection hy' with hy'
    subst hy'
    exact (x4s hco).1
   cases draw with
   | false =>
    simp only [xbG,Bool.not_false,if_true,evC] at hs
    split at hs
    ·rename_i en1 h1 e1
     simp only [Option.some.injEq,Prod.mk.injEq] at hs
     obtain ⟨rfl,rfl,rfl⟩:=hs
     refine wp_region ?_
     have hall':All2 (fun i ao=>∃ o,ops[i]?=some o∧x6L P gl nt ops.toList o ao) (List.range ops.size) (aops.map AOper.frz):=by
      rw [List.range_eq_range',← Array.length_toList]
      refine All2.map_right AOper.frz (All2.mono ?_ hall)
      rintro i ao ⟨o,h1,h2⟩
      exact ⟨o,by rwa [Array.getElem?_toList] at h1,ao,h2,x1Q.frz (x4s h2).1⟩
     exact xcP hc hall' hgl he R hb hsz e1 hQ
    ·simp at hs
   | true =>
    simp only [xbG,Bool.not_true,Bool.false_eq_true,if_false] at hs
    split at hs
    ·rename_i hok
     have hB:(aops.map AOper.frz).length=aops.length∧∀ (i:Nat) (x y:AOper),(aops.map AOper.frz)[i]?=some x→aops[i]?=some y→x1Q x y:=by
      refine ⟨by simp,fun i x y h1 h2=>?_⟩
      rw [List.getElem?_map,h2] at h1
      simp only [Option.map_some,Option.some.injEq] at h1
      subst h1
      exact x1Q.frz (hoff i y h2)
     have whole:∀ {B:List AOper} {n:Nat},B.length=n→x0U B (List.range n)=B:=by
      intro B n hn
      refine List.ext_getElem (by simp [x0U,hn]) fun i h1 h2=>?_
      simp [x0U,List.getD,h2]
     have:=fin hs
     rw [← whole (B:=aops.map AOper.frz) (n:=ops.toList.length) (by rw [List.length_map];exact hlen)] at this
     exact x8Z hm hq hc _ hx hB hok hgl he R hb hsz this hQ
    ·simp [evC] at hs
  | false =>
  simp only [Bool.false_eq_true,if_false] at hs
  cases draw with
  | false =>
   simp only [Bool.false_eq_true,if_false,evC] at hs
   split at hs
   ·rename_i en1 h1 e1
    simp only [Option.some.injEq,Prod.mk.injEq] at hs
    obtain ⟨rfl,rfl,rfl⟩:=hs
    refine wp_region ?_
    have hall:=x2z (P:=P) (gl:=gl) (nt:=nt) (all:=ops.toList) 0 hx (fun j o hj=>by simpa using hj)
    have hall':All2 (fun i ao=>∃ o,ops[i]?=some o∧x6L P gl nt ops.toList o ao) (List.range ops.size) aops:=by
     rw [List.range_eq_range',← Array.length_toList]
     refine All2.mono ?_ hall
     rintro i ao ⟨o,h1,h2⟩
     exact ⟨o,by rwa [Array.getElem?_toList] at h1,ao,h2,x1Q.refl _⟩
    exact xc8 hc aops hall' hgl he R hb hsz e1 hQ
   ·simp at hs
  | true =>
   have fin:∀ {B:List AOper},evC call base n (.region B) en h=some (ex,en',h')→(x1i call base B en h).map (fun r=>(Ex.normal,r.1,r.2))=some (ex,en',h'):=by
    intro B e
    simp only [evC] at e
    split at e
    ·rename_i en1 h1 e1
     rw [e1];exact e
    ·simp at e
   have hoff:∀ (i:Nat) (y:AOper),aops[i]?=some y→y.off=[]:=by
    intro i y hy
    have hall:=x2z (P:=P) (gl:=gl) (nt:=nt) (all:=ops.toList) 0 hx (fun j o hj=>by simpa using hj)
    have hi:i<ops.toList.length:=by
     have:=hall.length
     simp only [List.length_range'] at this
     have:=(List.getElem?_eq_some_iff.1 hy).1
     omega
    obtain ⟨y',hy',o,_,hco⟩:=hall.get i i (by rw [List.getElem?_range' hi];simp)
    rw [hy] at hy'
    injection hy' with hy'
    subst hy'
    exact (x4s hco).1
   have whole:∀ {B:List AOper} {n:Nat},B.length=n→x0U B (List.range n)=B:=by
    intro B n hn
    refine List.ext_getElem (by simp [x0U,hn]) fun i h1 h2=>?_
    simp [x0U,List.getD,h2]
   have hlen:aops.length=ops.toList.length:=by
    have hall:=x2z (P:=P) (gl:=gl) (nt:=nt) (all:=ops.toList) 0 hx (fun j o hj=>by simpa using hj)
    have:=hall.length
    simpa using this
   have mapSt:∀ (g:AOper→AOper),(∀ y:AOper,y.off=[]→x1Q (g y) y)→(aops.map g).length=aops.length∧∀ (i:Nat) (x y:AOper),(aops.map g)[i]?=some x→aops[i]?=some y→x1Q x y:=by
    intro g hg
    refine ⟨by simp,fun i x y h1 h2=>?_⟩
    rw [List.getElem?_map,h2] at h1
    simp only [Option.map_some,Option.some.injEq] at h1
    subst h1
    exact hg y (hoff i y h2)
   have same:aops.length=aops.length∧∀ (i:Nat) (x y:AOper),aops[i]?=some x→aops[i]?=some y→x1Q x y :=
    ⟨rfl,fun i x y h1 h2=>by rw [h1] at h2;injection h2 with h2;rw [h2];exact x1Q.refl _⟩
   simp only [if_true,xcM,Bool.not_true,Bool.false_eq_true,if_false] at hs
   split at hs
   ·rename_i hok
    have:=fin hs
    rw [← whole hlen] at this
    exact x8Z hm hq hc _ hx same hok hgl he R hb hsz this hQ
   ·split at hs
    ·rename_i hok
     exact x8Z hm hq hc _ hx same hok hgl he R hb hsz (fin hs) hQ
    ·split at hs
     ·rename_i hok
      exact x8Z hm hq hc _ hx (mapSt _ fun y hy=>x1Q.keep _ hy) hok hgl he R hb hsz (fin hs) hQ
     ·split at hs
      ·split at hs
       ·rename_i hok
        refine xia hm hq hc _ hx (xg4 fun i y hy f args ts e=>?_) hok hgl he R hb hsz (fin hs) hQ
        have hall:=x2z (P:=P) (gl:=gl) (nt:=nt) (all:=ops.toList) 0 hx (fun j o hj=>by simpa using hj)
        have hi:i<ops.toList.length:=by
         have:=hall.length
         simp only [List.length_range'] at this
         have:=(List.getElem?_eq_some_iff.1 hy).1
         omega
        obtain ⟨y',hy',o,_,hco⟩:=hall.get i i (by rw [List.getElem?_range' hi];simp)
        rw [hy] at hy'
        injection hy' with hy'
        subst hy'
        exact xbl hco e
       ·exact x7M hm hq hc hx hgl he R hb hsz hs hQ
      split at hs
      ·rename_i p hfind
       exact xde hm hq hc _ p hx ⟨rfl,fun i x y h1 h2=>by rw [h1] at h2;injection h2 with h2;subst h2;exact ⟨x1Q.refl _,fun _=>rfl⟩⟩ (List.find?_some hfind) hgl he R hb hsz (fin hs) hQ
      ·split at hs
       rotate_left
       ·split at hs
        ·rename_i p hfind
         refine xde hm hq hc _ p hx ⟨(mapSt _ fun y hy=>x1Q.frz hy).1,fun i x y h1 h2=>⟨(mapSt _ fun y hy=>x1Q.frz hy).2 i x y h1 h2,fun hl=>?_⟩⟩ (List.find?_some hfind) hgl he R hb hsz (fin hs) hQ
         rw [List.getElem?_map,h2] at h1
         simp only [Option.map_some,Option.some.injEq] at h1
         subst h1
         obtain ⟨dst,op,g,off⟩:=y
         simp only [AOper.frz] at hl ⊢
         cases op<;>simp [AOp.frz,AOp.lay] at hl ⊢
        ·exact x7M hm hq hc hx hgl he R hb hsz hs hQ
       rename_i hok
       have:=fin hs
       rw [← whole (B:=aops.map AOper.frz) (n:=ops.toList.length) (by rw [List.length_map];exact hlen)] at this
       exact x8Z hm hq hc _ hx (mapSt _ fun y hy=>x1Q.frz hy) hok hgl he R hb hsz this hQ
 | rangeFunc f ps asg body ih1 ih2 =>
  intro ac hco G en en' h h' a w ex Q hgl he R hb hsz hs hQ
  simp only [comp,Option.some.injEq] at hco
  subst hco
  simp [evC] at hs
 | scope x ih =>
  intro ac hco G en en' h h' a w ex Q hgl he R hb hsz hs hQ
  simp only [comp,Option.some.injEq] at hco
  subst hco
  simp [evC] at hs
 | label l =>
  intro ac hco G en en' h h' a w ex Q hgl he R hb hsz hs hQ
  simp only [comp,Option.some.injEq] at hco
  subst hco
  simp [evC] at hs
 | goto l =>
  intro ac hco G en en' h h' a w ex Q hgl he R hb hsz hs hQ
  simp only [comp,Option.some.injEq] at hco
  subst hco
  simp [evC] at hs
 | refuse why =>
  intro ac hco G en en' h h' a w ex Q hgl he R hb hsz hs hQ
  simp only [comp,Option.some.injEq] at hco
  subst hco
  simp [evC] at hs
end
end
section
open Go.RowKit (Below)
section
variable {P:Program} {gl:Nat→Option (List V)}
theorem xbF {G:Tie} {h:Heap} {en:Env} {a:Act} {w:World} {nt:Nat} (he:x0w G en a.tmps) (R:Rel G h w):∀ {rs:List ResultVar} {ars:List ARes} {vs:List V},x6j P nt rs=some ars→ze en h ars=some vs →
  ∃ rv:List Value,RepL G vs rv∧(rs.mapM (fun r=>(match r with
   | .tmp t=>pure (a.tmps.getD t undef)
   | .cell c t=>do loadVar t (← asAddr (a.tmps.getD c undef)):Sem Value))).run P w=.ok rv w
 | [],ars,vs,hc,hs=>by
  simp only [x6j,Option.some.injEq] at hc
  subst hc
  simp only [ze,Option.some.injEq] at hs
  subst hs
  exact ⟨[],by simp [RepL],by simp⟩
 | .tmp t::rs,ars,vs,hc,hs=>by
  simp only [x6j] at hc
  split at hc
  ·simp only [Option.map_eq_some_iff] at hc
   obtain ⟨r,hr,rfl⟩:=hc
   simp only [ze,zd,Option.bind_some,Option.map_eq_some_iff] at hs
   obtain ⟨us,hu,rfl⟩:=hs
   obtain ⟨rv,h1,h2⟩:=xbF he R hr hu
   refine ⟨_::rv,by simp only [RepL];exact ⟨_,_,rfl,he t,h1⟩,?_⟩
   rw [List.mapM_cons]
   simp only [Sem.run_bind,Sem.run_pure,Result.andThen_ok,h2]
  ·simp at hc
 | .cell c t::rs,ars,vs,hc,hs=>by
  simp only [x6j,Option.bind_eq_some_iff] at hc
  obtain ⟨n,hn,hc⟩:=hc
  split at hc
  ·simp only [Option.map_eq_some_iff] at hc
   obtain ⟨r,hr,rfl⟩:=hc
   simp only [ze,zd,Option.bind_eq_some_iff,Option.map_eq_some_iff] at hs
   obtain ⟨v,hv,us,hu,rfl⟩:=hs
   obtain ⟨rv,h1,h2⟩:=xbF he R hr hu
   obtain ⟨rx,h3,h4⟩:=xcX (P:=P) R hn (he c) hv
   refine ⟨rx::rv,by simp only [RepL];exact ⟨_,_,rfl,h4,h1⟩,?_⟩
   have hload:(do loadVar t (← asAddr (a.tmps.getD c undef)):Sem Value).run P w=.ok rx w:=by
    rw [xcY,Option.bind_eq_some_iff] at hv
    obtain ⟨⟨cs,off⟩,hp,_⟩:=hv
    obtain ⟨b,o,hptr,_⟩:=R.cells hp (he c)
    rw [hptr] at h3 ⊢
    exact h3
   rw [List.mapM_cons]
   simp only [Sem.run_bind] at hload ⊢
   rw [hload]
   simp only [Sem.run_pure,Result.andThen_ok,h2]
  ·simp at hc
theorem xbE {G:Tie} {h:Heap} {en:Env} {a:Act} {w:World} {nt:Nat} {fn:Func} {ars:List ARes} {vs:List V} (he:x0w G en a.tmps) (R:Rel G h w) (hc:x6j P nt fn.results.toList=some ars) (hs:ze en h ars=some vs) :
  ∃ r,(results fn a.tmps).run P w=.ok r w∧RepV G (za vs) r:=by
 obtain ⟨rv,h1,h2⟩:=xbF (P:=P) he R hc hs
 refine ⟨if h:rv.toArray.size=1 then rv.toArray[0] else .tuple rv.toArray,?_,?_⟩
 ·unfold results
  rw [Array.mapM_eq_mapM_toList]
  rw [Sem.run_bind,Sem.run_map]
  erw [h2]
  rfl
 ·have hl:=h1.length
  unfold za
  split
  ·rename_i v
   simp only [RepL] at h1
   obtain ⟨r,rest,rfl,h3,rfl⟩:=h1
   simpa using h3
  ·rename_i hne
   rw [dif_neg]
   ·simp only [RepV]
    exact ⟨_,rfl,h1⟩
   ·intro hsz
    simp only [List.size_toArray] at hsz
    rw [hl] at hsz
    match vs,hsz,hne with
    | [v],_,hne=>exact hne v rfl
    | [],hsz,_=>simp at hsz
    | _::_::_,hsz,_=>simp at hsz
structure FnOk (P:Program) (gl:Nat→Option (List V)) (quiet:FuncId→Nat) (f:FuncId) (A:AFunc):Prop where
 fn:∃ fn,P.funcs[f]?=some fn∧(fn.name== "runtime.NumGoroutine")=false∧xdj P (glz A.frz A.bz A.br gl) quiet A.pure A.frz A.bz A.br fn=some A
theorem x3g.take {n m:Nat} {h:Heap} (ho:x3g n h) (hn:n≤m):x3g n (h.take m):=by
 intro b hb
 have:(h.take m)[b]?=h[b]?:=List.getElem?_take_of_lt (by omega)
 rw [this]
 exact ho b hb
theorem x0V.glz {G:Tie} {gl:Nat→Option (List V)} (h:x0V G gl) (z:Bool) (ts rs:List Nat):x0V G (glz z ts rs gl):=by
 intro g cs e
 unfold Am.glz at e
 split at e
 ·injection e with e
  subst e
  simp only [RepV]
  exact ⟨g,0,rfl,by simp,by simp [RepF]⟩
 ·exact h g cs e
theorem x0V.unglz {G:Tie} {gl:Nat→Option (List V)} {z:Bool} {ts rs:List Nat} (hz:∀ g,x5n≤g→gl g=none) (h:x0V G (Am.glz z ts rs gl)):x0V G gl:=by
 intro g cs e
 refine h g cs ?_
 unfold Am.glz
 rw [if_neg]
 ·exact e
 ·intro hc
  simp only [Bool.or_eq_true,Bool.and_eq_true,beq_iff_eq,List.any_eq_true] at hc
  have:x5n≤g:=by
   unfold xdM at hc
   unfold x5n at hc ⊢
   rcases hc with (hc | ⟨t,_,hc⟩) | ⟨t,_,hc⟩<;>omega
  rw [hz g this] at e
  simp at e
theorem CallOk.glz {P:Program} {gl:Nat→Option (List V)} {call:x3T} (hz:∀ g,x5n≤g→gl g=none) (h:CallOk P gl call) (z:Bool) (ts rs:List Nat):CallOk P (Am.glz z ts rs gl) call :=
 ⟨h.grow,fun base f args hh r h' hs hb G w vals hgl R hv=>h.runs base f args hh r h' hs hb G w vals (hgl.unglz hz) R hv⟩
theorem xg8 {call:x3T} (hc:CallOk P gl call) {n base:Nat} {A:AFunc} {args:List V} {h h':Heap} {v:V} (hb:base≤h.length) (hs:x4y call n base A args h=some (v,h')):Grow base h h':=by
 unfold x4y at hs
 split at hs
 ·simp only at hs
  split at hs
  ·simp at hs
  ·rename_i ex en h1 hno e1
   simp only [Option.bind_eq_some_iff] at hs
   obtain ⟨rs,_,hs⟩:=hs
   split at hs
   ·rename_i hp
    simp only [hp,if_true] at e1
    have g:=x3k hc (Nat.le_refl _) e1
    simp only [Option.map_eq_some_iff,Prod.mk.injEq] at hs
    obtain ⟨_,_,_,rfl⟩:=hs
    have g1:=g.1
    refine ⟨by simp;omega,fun m h1' h2 ho=>?_⟩
    exact (g.2 m h2 h2 ho).take h2
   ·rename_i hp
    simp only [hp,Bool.false_eq_true,if_false] at e1
    injection hs with hs
    simp only [Prod.mk.injEq] at hs
    rw [← hs.2]
    exact x3k hc hb e1
  ·simp at hs
 ·simp at hs
theorem xg7 {quiet:FuncId→Nat} {call:x3T} (hq:x1w quiet call) (hc:CallOk P gl call) (hd:P.follows .mixedOrders=true) (hz:∀ g,x5n≤g→gl g=none) {n base:Nat} {f:FuncId} {A:AFunc} (hf:FnOk P gl quiet f A) {args:List V} {h h':Heap} {r:V} (hb:base≤h.length)
  (hs:x4y call n base A args h=some (r,h')) {G:Tie} {w:World} {vals:Array Value} (hgl:x0V G gl) (R:Rel G h w) (hv:RepL G args vals.toList) :
  x9M P f vals w fun rv w'=>∃ G',Reach G w h' w' G'∧RepV G' r rv:=by
 obtain ⟨fn,hfn,hname,hcf⟩:=hf.fn
 simp only [xdj,Option.bind_eq_some_iff,Option.map_eq_some_iff] at hcf
 obtain ⟨c,hbody,ac,hac,ars,hars,hA⟩:=hcf
 replace hc:=hc.glz hz A.frz A.bz A.br
 replace hgl:=hgl.glz A.frz A.bz A.br
 unfold x9M
 have henter:(callFunc f vals).run P w=.ok (.enter f vals) w:=by
  have hname':¬ fn.name = "runtime.NumGoroutine":=by simpa using hname
  simp [callFunc,hfn,hname',hbody]
 rw [henter]
 simp only
 unfold x4y at hs
 split at hs
 case isFalse=>simp at hs
 rename_i hlen
 simp only at hs
 split at hs
 ·simp at hs
 ·rename_i ex en h1 hno e1
  simp only [Option.bind_eq_some_iff] at hs
  obtain ⟨rs,hres,hs⟩:=hs
  have hAb:A.body=ac:=by rw [← hA]
  have hAr:A.results=ars:=by rw [← hA]
  have hvl:vals.size=args.length:=by rw [← Array.length_toList];exact hv.length
  refine calls_of_wp hfn hbody ?_
  have he0:x0w G (fun t=>args.getD t .undef) (vals++Array.replicate (fn.ntmps-vals.size) undef):=by
   intro t
   by_cases ht:t<args.length
   ·obtain ⟨rv,h2,h3⟩:=hv.get (i:=t) (c:=args[t]) (List.getElem?_eq_getElem ht)
    rw [Array.getElem?_toList] at h2
    have e2:(vals++Array.replicate (fn.ntmps-vals.size) undef).getD t undef=rv:=by
     have hlt:t<vals.size:=by omega
     rw [Array.getElem?_eq_getElem hlt] at h2
     injection h2 with h2
     simp [Array.getD,hlt,h2]
     omega
    rw [e2]
    simpa [List.getD,ht] using h3
   ·simp [List.getD,ht,RepV]
  have hcode:x7Y P (glz A.frz A.bz A.br gl) (if A.pure then h.length else base) fn.ntmps c (fun en h0=>evC call (if A.pure then h.length else base) n A.body en h0):=by
   rw [hAb]
   exact xkx hd hq hc hac
  refine hcode hgl he0 R (by split<;>omega) (by simp;omega) e1 fun a' w' G' hreach he' q1 q2=>?_
  rw [hAr] at hres
  obtain ⟨rv,h2,h3⟩:=xbE (P:=P) he' hreach.rel hars hres
  have fin:∃ G'',Reach G w h' w' G''∧RepV G'' r rv:=by
   split at hs
   ·rename_i hp
    simp only [hp,if_true] at e1 hs
    simp only [Option.map_eq_some_iff,Prod.mk.injEq] at hs
    obtain ⟨v',hfz,rfl,rfl⟩:=hs
    have g:=x3k hc (Nat.le_refl _) e1
    have ho:=g.2 h.length (Nat.le_refl _) (Nat.le_refl _) R.heapOk
    refine ⟨G'.cut h1 w' h.length,⟨hreach.ext.cut hreach.rel R.n,hreach.rel.cut ho g.1,hreach.below⟩,(xen hreach.rel n).1 hfz h3⟩
   ·injection hs with hs
    simp only [Prod.mk.injEq] at hs
    obtain ⟨rfl,rfl⟩:=hs
    exact ⟨G',hreach,h3⟩
  have hd0:a'.defers=[]:=q2
  cases ex with
  | normal=>exact ⟨hd0,rv,h2,fin⟩
  | ret=>exact ⟨hd0,rv,h2,fin⟩
  | exit id=>exact absurd rfl (hno id)
 ·simp at hs
def xn9 (P:Program) (gl:Nat→Option (List V)) (f:FuncId) (g:Nat→List V→Heap→Option (V×Heap)):Prop :=
 (∀ base args h r h',g base args h=some (r,h')→base≤h.length→Grow base h h') ∧
 (∀ base args h r h',g base args h=some (r,h')→base≤h.length→∀ G w vals,x0V G gl→Rel G h w→RepL G args vals.toList →
  x9M P f vals w fun rv w'=>∃ G',Reach G w h' w' G'∧RepV G' r rv)
theorem xgC {X:FuncId→Option (Nat→List V→Heap→Option (V×Heap))} {F:FuncId→Option AFunc} {quiet:FuncId→Nat} (hd:P.follows .mixedOrders=true) (hz:∀ g,x5n≤g→gl g=none) (hq:∀ n,x1w quiet (x0j X F n))
  (hX:∀ f g,X f=some g→xn9 P gl f g) (hF:∀ f A,F f=some A→FnOk P gl quiet f A):∀ n,CallOk P gl (x0j X F n)
 | 0=>⟨fun _ _ _ _ _ _ hs=>by simp [x0j] at hs,fun _ _ _ _ _ _ hs=>by simp [x0j] at hs⟩
 | n+1=>by
  have ih:=xgC hd hz hq hX hF n
  refine ⟨fun base f args h r h' hs hb=>?_,fun base f args h r h' hs hb G w vals hgl R hv=>?_⟩
  ·unfold x0j at hs
   split at hs
   ·rename_i g hg
    exact (hX f g hg).1 _ _ _ _ _ hs hb
   ·split at hs
    ·exact xg8 ih hb hs
    ·simp at hs
  ·unfold x0j at hs
   split at hs
   ·rename_i g hg
    exact (hX f g hg).2 _ _ _ _ _ hs hb G w vals hgl R hv
   ·split at hs
    ·rename_i A hA
     exact xg7 (hq n) ih hd hz (hF f A hA) hb hs hgl R hv
    ·simp at hs
end
end
section
open Go.RowKit (Below)
def AOp.calm (quiet:FuncId→Nat) (op:AOp):Bool:=op.reads||op.grows quiet
def ACode.calm (quiet:FuncId→Nat):ACode→Bool
 | .skip | .ret | .exit _ | .fail=>true
 | .seq a b | .cond _ a b=>a.calm quiet&&b.calm quiet
 | .region ops=>ops.all fun o=>o.op.calm quiet
 | .regionM ..=>false
 | .block _ c | .loop c=>c.calm quiet
section
variable {call:x3T} {base n:Nat} {quiet:FuncId→Nat}
theorem xij (hq:x1w quiet call) {o:AOper} {en:Env} {h h':Heap} {v:V} (hc:o.op.calm quiet=true) (hs:x0M call base o en h=some (v,h')):∃ ext,h'=h++ext:=by
 simp only [AOp.calm,Bool.or_eq_true] at hc
 rcases hc with hc | hc
 ·exact ⟨[],by rw [(x4W hc hs).1,List.append_nil]⟩
 ·exact x8Q hq hc hs
theorem xdl (hq:x1w quiet call):∀ {ops:List AOper} {en en':Env} {h h':Heap},(ops.all fun o=>o.op.calm quiet)=true→x1i call base ops en h=some (en',h')→∃ ext,h'=h++ext
 | [],en,en',h,h',_,hs=>by
  simp only [x1i,Option.some.injEq,Prod.mk.injEq] at hs
  exact ⟨[],by rw [hs.2,List.append_nil]⟩
 | o::ops,en,en',h,h',hc,hs=>by
  simp only [List.all_cons,Bool.and_eq_true] at hc
  rw [x0i,Option.bind_eq_some_iff] at hs
  obtain ⟨⟨v,h1⟩,e1,e2⟩:=hs
  obtain ⟨x,rfl⟩:=xij hq hc.1 e1
  obtain ⟨y,rfl⟩:=xdl hq hc.2 e2
  exact ⟨x++y,by simp⟩
theorem xbo {f:Env→Heap→Option (Ex×Env×Heap)} (hf:∀ en h ex en' h',f en h=some (ex,en',h')→∃ ext,h'=h++ext) :
  ∀ (k:Nat) {en en':Env} {h h':Heap} {ex:Ex},iter f k en h=some (ex,en',h')→∃ ext,h'=h++ext
 | 0,_,_,_,_,_,hs=>by simp [iter] at hs
 | k+1,en,en',h,h',ex,hs=>by
  unfold iter at hs
  split at hs
  ·rename_i en1 h1 e1
   obtain ⟨x,rfl⟩:=hf _ _ _ _ _ e1
   obtain ⟨y,rfl⟩:=xbo hf k hs
   exact ⟨x++y,by simp⟩
  ·exact hf _ _ _ _ _ hs
theorem x42 (hq:x1w quiet call):∀ {c:ACode} {en en':Env} {h h':Heap} {ex:Ex},c.calm quiet=true→evC call base n c en h=some (ex,en',h')→∃ ext,h'=h++ext
 | .skip,_,_,_,_,_,_,hs=>by simp only [evC,Option.some.injEq,Prod.mk.injEq] at hs;exact ⟨[],by rw [hs.2.2,List.append_nil]⟩
 | .ret,_,_,_,_,_,_,hs=>by simp only [evC,Option.some.injEq,Prod.mk.injEq] at hs;exact ⟨[],by rw [hs.2.2,List.append_nil]⟩
 | .exit id,_,_,_,_,_,_,hs=>by simp only [evC,Option.some.injEq,Prod.mk.injEq] at hs;exact ⟨[],by rw [hs.2.2,List.append_nil]⟩
 | .fail,_,_,_,_,_,_,hs=>by simp [evC] at hs
 | .seq a b,en,en',h,h',ex,hc,hs=>by
  simp only [ACode.calm,Bool.and_eq_true] at hc
  simp only [evC] at hs
  split at hs
  ·rename_i en1 h1 e1
   obtain ⟨x,rfl⟩:=x42 hq hc.1 e1
   obtain ⟨y,rfl⟩:=x42 hq hc.2 hs
   exact ⟨x++y,by simp⟩
  ·exact x42 hq hc.1 hs
 | .cond c a b,en,en',h,h',ex,hc,hs=>by
  simp only [ACode.calm,Bool.and_eq_true] at hc
  simp only [evC] at hs
  split at hs
  ·split at hs
   ·exact x42 hq hc.1 hs
   ·exact x42 hq hc.2 hs
  ·simp at hs
 | .region ops,en,en',h,h',ex,hc,hs=>by
  simp only [ACode.calm] at hc
  simp only [evC] at hs
  split at hs
  ·rename_i en1 h1 e1
   simp only [Option.some.injEq,Prod.mk.injEq] at hs
   rw [← hs.2.2]
   exact xdl hq hc e1
  ·simp at hs
 | .regionM ..,en,en',h,h',ex,hc,hs=>by simp [ACode.calm] at hc
 | .block id c,en,en',h,h',ex,hc,hs=>by
  simp only [ACode.calm] at hc
  simp only [evC] at hs
  split at hs
  ·rename_i i en1 h1 e1
   obtain ⟨x,rfl⟩:=x42 hq hc e1
   split at hs
   ·simp only [Option.some.injEq,Prod.mk.injEq] at hs
    exact ⟨x,hs.2.2.symm⟩
   ·simp only [Option.some.injEq,Prod.mk.injEq] at hs
    exact ⟨x,hs.2.2.symm⟩
  ·exact x42 hq hc hs
 | .loop c,en,en',h,h',ex,hc,hs=>by
  simp only [ACode.calm] at hc
  simp only [evC] at hs
  exact xbo (fun _ _ _ _ _ e=>x42 hq hc e) n hs
theorem xgB (hq:x1w quiet call) {A:AFunc} {args:List V} {h h':Heap} {v:V} (hc:A.body.calm quiet=true) (hs:x4y call n base A args h=some (v,h')):∃ ext,h'=h++ext:=by
 unfold x4y at hs
 split at hs
 ·simp only at hs
  split at hs
  ·simp at hs
  ·rename_i ex en h1 hno e1
   obtain ⟨x,rfl⟩:=x42 hq hc e1
   simp only [Option.bind_eq_some_iff] at hs
   obtain ⟨rs,_,hs⟩:=hs
   split at hs
   ·rename_i hp
    simp only [Option.map_eq_some_iff,Prod.mk.injEq] at hs
    obtain ⟨_,_,_,rfl⟩:=hs
    exact ⟨[],by simp⟩
   ·simp only [Option.some.injEq,Prod.mk.injEq] at hs
    exact ⟨x,hs.2.symm⟩
  ·simp at hs
 ·simp at hs
end
def ACode.still (quiet:FuncId→Nat):ACode→Bool
 | .skip | .ret | .exit _ | .fail=>true
 | .seq a b | .cond _ a b=>a.still quiet&&b.still quiet
 | .block _ c | .loop c=>c.still quiet
 | .region ops=>ops.all fun o=>o.op.inertQ quiet&&o.off.isEmpty
 | .regionM ..=>false
def ARes.still:ARes→Bool
 | .tmp _=>true
 | _=>false
def AFunc.still (quiet:FuncId→Nat) (A:AFunc):Bool:=!A.pure&&A.results.all ARes.still&&A.body.still quiet
section
variable {call:x3T} {base n:Nat} {quiet:FuncId→Nat}
theorem xf2 (hq:x1w quiet call) {o:AOper} {en:Env} {h h':Heap} {v:V} (hc:(o.op.inertQ quiet&&o.off.isEmpty)=true) (hs:x0M call base o en h=some (v,h')) :
  h'=h∧∀ b2 h2,x0M call b2 o en h2=some (v,h2):=by
 simp only [Bool.and_eq_true] at hc
 obtain ⟨hi,hoff⟩:=hc
 refine ⟨(x4q hq hi hs).1,fun b2 h2=>?_⟩
 have key:x1x call base en h o=some (v,h')→x1x call b2 en h2 o=some (v,h2):=by
  intro e
  obtain ⟨ho,e⟩:=x1L e
  refine x3Z (by simp [x5c,List.isEmpty_iff.1 hoff]) ?_
  by_cases hin:o.op.inert=true
  ·rw [x3e (x6d hin)] at e ⊢
   exact (x4F hin e).2 b2 h2
  ·unfold AOp.inertQ at hi
   split at hi
   ·rename_i k args eop
    rw [eop] at e ⊢
    simp only [evOp,Opd.get,zr,List.nil_append,List.append_nil] at e ⊢
    exact (hq.2 k (by simpa using hi) _ _ _ _ _ e).2 b2 h2
   ·rename_i qs t args eop
    rw [eop] at e ⊢
    simp only [evOp] at e ⊢
    split at e
    ·rename_i k vs ht
     exact (hq.2 k (by simpa using List.all_eq_true.1 hi k (x6Q ht)) _ _ _ _ _ e).2 b2 h2
    ·simp at e
   ·exact absurd hi hin
 unfold x0M at hs ⊢
 split at hs
 ·exact key hs
 ·rename_i g want hg
  cases hen:gOk (en g) want with
  | none=>rw [hen] at hs;simp at hs
  | some t =>
   rw [hen] at hs
   cases t with
   | true=>exact key hs
   | false =>
    simp only [Option.some.injEq,Prod.mk.injEq] at hs ⊢
    exact ⟨hs.1,trivial⟩
theorem xax (hq:x1w quiet call):∀ {ops:List AOper} {en en':Env} {h h':Heap},(ops.all fun o=>o.op.inertQ quiet&&o.off.isEmpty)=true→x1i call base ops en h=some (en',h') →
  h'=h∧∀ b2 h2,x1i call b2 ops en h2=some (en',h2)
 | [],en,en',h,h',_,hs=>by
  simp only [x1i,Option.some.injEq,Prod.mk.injEq] at hs ⊢
  exact ⟨hs.2.symm,fun _ _=>⟨hs.1,trivial⟩⟩
 | o::r,en,en',h,h',hc,hs=>by
  simp only [List.all_cons,Bool.and_eq_true] at hc
  rw [x0i,Option.bind_eq_some_iff] at hs
  obtain ⟨⟨v,h1⟩,e1,e2⟩:=hs
  obtain ⟨rfl,q1⟩:=xf2 hq (by simpa using hc.1) e1
  obtain ⟨rfl,q2⟩:=xax hq (by simpa using hc.2) e2
  refine ⟨rfl,fun b2 h2=>?_⟩
  rw [x0i,q1 b2 h2]
  exact q2 b2 h2
theorem x7s {f g:Env→Heap→Option (Ex×Env×Heap)} (hf:∀ en h ex en' h',f en h=some (ex,en',h')→h'=h∧∀ h2,g en h2=some (ex,en',h2)) :
  ∀ (k:Nat) {en en':Env} {h h':Heap} {ex:Ex},iter f k en h=some (ex,en',h')→h'=h∧∀ h2,iter g k en h2=some (ex,en',h2)
 | 0,_,_,_,_,_,hs=>by simp [iter] at hs
 | k+1,en,en',h,h',ex,hs=>by
  unfold iter at hs
  split at hs
  ·rename_i en1 h1 e1
   obtain ⟨rfl,q1⟩:=hf _ _ _ _ _ e1
   obtain ⟨rfl,q2⟩:=x7s hf k hs
   refine ⟨rfl,fun h2=>?_⟩
   unfold iter
   rw [q1 h2]
   exact q2 h2
  ·rename_i hno
   obtain ⟨rfl,q1⟩:=hf _ _ _ _ _ hs
   refine ⟨rfl,fun h2=>?_⟩
   unfold iter
   rw [q1 h2]
   cases ex with
   | normal=>exact absurd hs (hno _ _)
   | exit i=>rfl
   | ret=>rfl
theorem x2k (hq:x1w quiet call):∀ {c:ACode} {en en':Env} {h h':Heap} {ex:Ex},c.still quiet=true→evC call base n c en h=some (ex,en',h') →
  h'=h∧∀ b2 h2,evC call b2 n c en h2=some (ex,en',h2)
 | .skip,_,_,_,_,_,_,hs=>by simp only [evC,Option.some.injEq,Prod.mk.injEq] at hs ⊢;exact ⟨hs.2.2.symm,fun _ _=>⟨hs.1,hs.2.1,trivial⟩⟩
 | .ret,_,_,_,_,_,_,hs=>by simp only [evC,Option.some.injEq,Prod.mk.injEq] at hs ⊢;exact ⟨hs.2.2.symm,fun _ _=>⟨hs.1,hs.2.1,trivial⟩⟩
 | .exit i,_,_,_,_,_,_,hs=>by simp only [evC,Option.some.injEq,Prod.mk.injEq] at hs ⊢;exact ⟨hs.2.2.symm,fun _ _=>⟨hs.1,hs.2.1,trivial⟩⟩
 | .fail,_,_,_,_,_,_,hs=>by simp [evC] at hs
 | .seq a b,en,en',h,h',ex,hc,hs=>by
  simp only [ACode.still,Bool.and_eq_true] at hc
  unfold evC at hs
  split at hs
  ·rename_i en1 h1 e1
   obtain ⟨rfl,q1⟩:=x2k hq hc.1 e1
   obtain ⟨rfl,q2⟩:=x2k hq hc.2 hs
   refine ⟨rfl,fun b2 h2=>?_⟩
   unfold evC
   rw [q1 b2 h2]
   exact q2 b2 h2
  ·rename_i hno
   obtain ⟨rfl,q1⟩:=x2k hq hc.1 hs
   refine ⟨rfl,fun b2 h2=>?_⟩
   unfold evC
   rw [q1 b2 h2]
   cases ex with
   | normal=>exact absurd hs (hno _ _)
   | exit i=>rfl
   | ret=>rfl
 | .cond c a b,en,en',h,h',ex,hc,hs=>by
  simp only [ACode.still,Bool.and_eq_true] at hc
  unfold evC at hs
  split at hs
  ·rename_i t et
   cases t with
   | true =>
    obtain ⟨rfl,q1⟩:=x2k hq hc.1 hs
    exact ⟨rfl,fun b2 h2=>by unfold evC;rw [et];exact q1 b2 h2⟩
   | false =>
    obtain ⟨rfl,q1⟩:=x2k hq hc.2 hs
    exact ⟨rfl,fun b2 h2=>by unfold evC;rw [et];exact q1 b2 h2⟩
  ·simp at hs
 | .region ops,en,en',h,h',ex,hc,hs=>by
  simp only [ACode.still] at hc
  unfold evC at hs
  split at hs
  ·rename_i en1 h1 e1
   obtain ⟨rfl,q1⟩:=xax hq hc e1
   simp only [Option.some.injEq,Prod.mk.injEq] at hs
   obtain ⟨rfl,rfl,rfl⟩:=hs
   exact ⟨rfl,fun b2 h2=>by unfold evC;rw [q1 b2 h2]⟩
  ·simp at hs
 | .regionM ..,en,en',h,h',ex,hc,hs=>by simp [ACode.still] at hc
 | .block id c,en,en',h,h',ex,hc,hs=>by
  simp only [ACode.still] at hc
  unfold evC at hs
  split at hs
  ·rename_i i en1 h1 e1
   obtain ⟨rfl,q1⟩:=x2k hq hc e1
   split at hs
   ·rename_i hi
    simp only [Option.some.injEq,Prod.mk.injEq] at hs
    obtain ⟨rfl,rfl,rfl⟩:=hs
    exact ⟨rfl,fun b2 h2=>by unfold evC;rw [q1 b2 h2];simp only [if_pos hi]⟩
   ·rename_i hi
    simp only [Option.some.injEq,Prod.mk.injEq] at hs
    obtain ⟨rfl,rfl,rfl⟩:=hs
    exact ⟨rfl,fun b2 h2=>by unfold evC;rw [q1 b2 h2];simp only [if_neg hi]⟩
  ·rename_i hno
   obtain ⟨rfl,q1⟩:=x2k hq hc hs
   refine ⟨rfl,fun b2 h2=>?_⟩
   unfold evC
   rw [q1 b2 h2]
   cases ex with
   | exit i=>exact absurd hs (hno _ _ _)
   | normal=>rfl
   | ret=>rfl
 | .loop c,en,en',h,h',ex,hc,hs=>by
  simp only [ACode.still] at hc
  unfold evC at hs
  refine ⟨(x7s (g:=fun en h=>evC call base n c en h) (fun en h ex en' h' e=>⟨(x2k hq hc e).1,(x2k hq hc e).2 base⟩) n hs).1,fun b2 h2=>?_⟩
  unfold evC
  exact (x7s (g:=fun en h=>evC call b2 n c en h) (fun en h ex en' h' e=>⟨(x2k hq hc e).1,(x2k hq hc e).2 b2⟩) n hs).2 h2
theorem x8p {en:Env} {h:Heap}:∀ {rs:List ARes} {vs:List V},rs.all ARes.still=true→ze en h rs=some vs→∀ h2,ze en h2 rs=some vs
 | [],vs,_,hs,h2=>hs
 | .tmp t::rs,vs,hc,hs,h2=>by
  simp only [List.all_cons,Bool.and_eq_true] at hc
  simp only [ze,zd,Option.bind_some,Option.map_eq_some_iff] at hs ⊢
  obtain ⟨us,hu,rfl⟩:=hs
  exact ⟨us,x8p hc.2 hu h2,rfl⟩
 | .cell a b::rs,vs,hc,hs,h2=>by simp [ARes.still] at hc
theorem xdA (hq:x1w quiet call) {A:AFunc} {args:List V} {h h':Heap} {v:V} (hc:A.still quiet=true) (hs:x4y call n base A args h=some (v,h')) :
  h'=h∧∀ b2 h2,x4y call n b2 A args h2=some (v,h2):=by
 simp only [AFunc.still,Bool.and_eq_true,Bool.not_eq_true'] at hc
 obtain ⟨⟨hp,hr⟩,hb⟩:=hc
 unfold x4y at hs
 split at hs
 ·rename_i hl
  simp only [hp,Bool.false_eq_true,if_false] at hs
  split at hs
  ·simp at hs
  ·rename_i ex en h1 hno e1
   obtain ⟨rfl,q1⟩:=x2k hq hb e1
   simp only [Option.bind_eq_some_iff,Option.some.injEq,Prod.mk.injEq] at hs
   obtain ⟨rs,e2,e3,rfl⟩:=hs
   refine ⟨rfl,fun b2 h2=>?_⟩
   unfold x4y
   rw [if_pos hl]
   simp only [hp,Bool.false_eq_true,if_false]
   rw [q1 b2 h2]
   cases ex with
   | exit i=>exact (hno i rfl).elim
   | normal=>simp only [x8p hr e2 h2,Option.bind_some,e3]
   | ret=>simp only [x8p hr e2 h2,Option.bind_some,e3]
  ·simp at hs
 ·simp at hs
end
theorem xcN {X:FuncId→Option (Nat→List V→Heap→Option (V×Heap))} {F:FuncId→Option AFunc} {quiet:FuncId→Nat}
  (hX:∀ f g,quiet f≠0→X f=some g→(∀ base args h v h',g base args h=some (v,h')→∃ ext,h'=h++ext)∧quiet f≠2)
  (hF:∀ f A,quiet f≠0→X f=none→F f=some A→A.body.calm quiet=true∧(quiet f=2→A.still quiet=true)):∀ n,x1w quiet (x0j X F n)
 | 0=>⟨fun _ _ _ _ _ _ _ hs=>by simp [x0j] at hs,fun _ _ _ _ _ _ _ hs=>by simp [x0j] at hs⟩
 | n+1=>by
  have ih:=xcN hX hF n
  refine ⟨fun k hk base args h v h' hs=>?_,fun k hk base args h v h' hs=>?_⟩
  ·unfold x0j at hs
   split at hs
   ·rename_i g hg
    exact (hX k g hk hg).1 _ _ _ _ _ hs
   ·rename_i hg
    split at hs
    ·rename_i A hA
     exact xgB ih (hF k A hk hg hA).1 hs
    ·simp at hs
  ·have hk0:quiet k≠0:=by rw [hk];simp
   unfold x0j at hs
   split at hs
   ·rename_i g hg
    exact absurd hk (hX k g hk0 hg).2
   ·rename_i hg
    split at hs
    ·rename_i A hA
     obtain ⟨q1,q2⟩:=xdA ih ((hF k A hk0 hg hA).2 hk) hs
     refine ⟨q1,fun b2 h2=>?_⟩
     unfold x0j
     rw [hg]
     simp only [hA]
     exact q2 b2 h2
    ·simp at hs
section
variable {P:Program} {gl:Nat→Option (List V)}
end
end
section
open Go.RowKit (Below)
section
variable {P:Program} {gl:Nat→Option (List V)} {G:Tie} {h:Heap} {w:World}
end
end
end Go.Am
