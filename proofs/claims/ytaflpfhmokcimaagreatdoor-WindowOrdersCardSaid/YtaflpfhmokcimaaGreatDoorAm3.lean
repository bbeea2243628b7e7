/- The abstract machine and what is proved in it, part 3. -/
import Derived.Test.YtaflpfhmokcimaaGreatDoorAm2
import Derived.MapKept
import Derived.LoopN
import Derived.Orders
set_option linter.unusedVariables false
set_option linter.unusedSimpArgs false
namespace Go.Am
section
open Go.RowKit (Below)
section
variable {P:Program} {gl:Nat→Option (List V)} {G:Tie} {en:Env} {h h':Heap} {a:Act} {w:World} {o:Oper} {base:Nat} {v:V}
theorem xfq {t e:TypeId} {n sz:Nat} {ps:Array (Nat×Operand)} {zs:List V} {qs:List (Nat×Opd)} (hop:o.op=.buildSlice t n ps) (hgl:x0V G gl) (he:x0w G en a.tmps) (R:Rel G h w)
  (ht:P.underlying t=some (.slice e)) (hg:x2n P e=some sz) (hz:x5y P e=some zs) (hn:n*sz≤2 ^ 24∧zs.length=sz) (hq:x6q gl ps.toList=some qs)
  {wr:Bool} (hs:step base en h (.bslice wr e sz zs n qs)=some (v,h')):OpOk P o a G h' w v:=by
 obtain ⟨i,z,hi,hz1,rfl,hpos,hby,hzs⟩:=x3L hg
 simp only [step,Option.bind_eq_some_iff] at hs
 obtain ⟨rows,hf,hs⟩:=hs
 have hz':x7v z.cells.toList=some zs:=by
  simp only [x5y,hi,hz1,Option.bind_some] at hz
  exact hz
 obtain ⟨cells,h1,h2⟩:=x7W (G:=G) (n:=n) (xaO (n:=n) hz' hzs) hf (x7L hgl he hq)
 have hrl:rows.length*i.size=cells.size:=by
  have:=h2.1
  simpa using this.symm
 have hlen:rows.length=n:=by
  have key:∀ {ps:List (Nat×V)} {xs ys:List (List V)},zv i.size xs ps=some ys→ys.length=xs.length:=by
   intro ps
   induction ps with
   | nil=>intro xs ys h;simp only [zv,Option.some.injEq] at h;rw [h]
   | cons p ps ih =>
    intro xs ys h
    obtain ⟨k,u⟩:=p
    unfold zv at h
    split at h
    ·have:=ih h;simpa using this
    ·simp at h
  have:=key hf
  simpa using this
 have hrun:(Instr.buildSlice t n (ps.map fun (i,x)=>(i,a.eval x))).run P w=.ok (.slice (some ⟨w.heap.size,0,none⟩) n n) (w.alloc (.cells cells e (0,0))):=by
  have hps:(ps.map fun (i,x)=>(i,a.eval x)).toList=ps.toList.map fun p=>(p.1,a.eval p.2):=by simp
  have hnot:¬ (2 ^ 24<n*i.size):=by omega
  rw [← hps] at h1
  generalize (ps.map fun (i,x)=>(i,a.eval x))=parts at h1
  have hsize:(sizeOf e).run P w=.ok i.size w:=by simp [sizeOf,typeInfo,hi]
  have hzv:(zeroValue e).run P w=.ok z w:=by simp [zeroValue,typeInfo,hi,hz1]
  unfold madeCells at h1
  unfold Instr.buildSlice
  by_cases h0:n*i.size=0
  ·have h1':Instr.fill (fun j=>some (j*i.size,i.size)) (Array.map (fun x=>(#[]:Array Value)[x%(#[]:Array Value).size]!) (Array.range (n*i.size))) parts.toList=some cells:=by
    have hm:∀ f:Nat→Value,Array.map f (Array.range 0) = #[]:=fun f=>Array.eq_empty_of_size_eq_zero (by simp)
    rw [← h1,h0,hm,hm]
   simp only [Sem.run_bind,run_underlying ht w,Result.andThen_ok,hsize,gt_iff_lt,hnot,if_false,Sem.run_pure,if_pos h0,h1']
   rfl
  ·simp only [Sem.run_bind,run_underlying ht w,Result.andThen_ok,hsize,gt_iff_lt,hnot,if_false,Sem.run_pure,if_neg h0,hzv,h1]
   rfl
 have hrows:∀ r∈rows,r.length=i.size:=fun r hr=>by
  obtain ⟨k,hk⟩:=List.getElem?_of_mem hr
  exact (h2.2 k r hk).1
 have rowcase:(rows.all fun r=>r.all zm)=true→some (V.hsl h.length 0 0 rows.length,h++[Obj.row e i.size 0 rows])=some (v,h')→OpOk P o a G h' w v:=by
  intro hone hs
  injection hs with hs
  simp only [Prod.mk.injEq] at hs
  obtain ⟨rfl,rfl⟩:=hs
  have hB:x2A G i.size cells rows:=by
   have:=h2.blk (rest:=[]) (fun r hr=>(List.all_eq_true.1 hone) r hr)
   rwa [List.append_nil,Array.toArray_toList] at this
  refine OpOk.value (by simp only [execOp,hop]) hrun (Ext.newRow G ⟨0,i.size,w.heap.size,n,_⟩) (R.newRow e hpos (by omega) (by rw [← hrl,hlen]) hB) ?_ (x3n R _)
  simp only [RepV]
  refine ⟨by simp [Tie.newRow,R.n],_,_,by rw [hlen],fun L hL=>?_⟩
  simp only [Tie.newRow,R.n,if_true,Option.some.injEq] at hL
  subst hL
  exact ⟨Nat.le_refl _,fun _=>⟨by omega,⟨by simp,by simp;omega⟩,fun _=>by simp⟩⟩
 split at hs
 ·split at hs
  ·rename_i hone
   exact rowcase hone hs
  ·simp at hs
 split at hs
 ·rename_i hgr
  injection hs with hs
  simp only [Prod.mk.injEq] at hs
  obtain ⟨rfl,rfl⟩:=hs
  obtain ⟨hR,hV⟩:=R.newSlc (ex:=.lit) (rest:=[]) (cap:=n) h2 hgr (by omega) (by omega) e (0,0)
  rw [List.append_nil,Array.toArray_toList] at hR hV
  rw [hlen] at hV
  exact OpOk.value (by simp only [execOp,hop]) hrun (Ext.newFz R _) hR hV (x3n R _)
 ·split at hs
  ·rename_i hone
   exact rowcase hone hs
  ·simp at hs
theorem xaJ {t e:TypeId} {sz:Nat} {l c:Operand} {l' c':Opd} {zs:List V} (hop:o.op=.makeSlice t l c) (hgl:x0V G gl) (he:x0w G en a.tmps) (R:Rel G h w)
  (ht:P.underlying t=some (.slice e)) (hg:x2n P e=some sz) (hz:x5y P e=some zs) (hl:opd gl l=some l') (hc:opd gl c=some c')
  (hs:step base en h (.makeSlice e sz zs l' c')=some (v,h')):OpOk P o a G h' w v:=by
 obtain ⟨i,z,hi,hz1,rfl,hpos,hby,hzs⟩:=x3L hg
 have hz':x7v z.cells.toList=some zs:=by
  simp only [x5y,hi,hz1,Option.bind_some] at hz
  exact hz
 simp only [step] at hs
 split at hs
 ·rename_i n m hn hm
  split at hs
  ·rename_i hcond
   injection hs with hs
   simp only [Prod.mk.injEq] at hs
   obtain ⟨rfl,rfl⟩:=hs
   obtain ⟨kl,il,e1,hl0,rfl⟩:=x3o (x0l hgl he hl) hn
   obtain ⟨kc,ic,e2,hc0,rfl⟩:=x3o (x0l hgl he hc) hm
   have hlim:ic.toNat≤2 ^ 36:=hcond.2
   have hb:(i.bytes:Int)*ic≤281474976710656:=by
    have h1:(i.bytes:Int)*ic≤1024*ic:=Int.mul_le_mul_of_nonneg_right (by omega) hc0
    omega
   have hrun:=run_make (P:=P) w t e i z ht hi hz1 kl kc il ic hl0 (by omega) hb (by omega)
   rw [← e1,← e2] at hrun
   have hfl:=xaO (G:=G) (n:=ic.toNat) hz' hzs
   have hone:=(x62 hz').1
   have hB:x2A G i.size (madeCells z.cells (ic.toNat*i.size)) (List.replicate il.toNat zs):=by
    intro k cs hk
    rw [List.getElem?_replicate] at hk
    split at hk
    ·rename_i hlt
     injection hk with hk
     subst hk
     obtain ⟨h1,h2⟩:=hfl.2 k zs (by rw [List.getElem?_replicate,if_pos (by omega)])
     exact ⟨h1,hone,fun j c hj=>by obtain ⟨u,h3,h4⟩:=h2 j c hj;rw [Array.getElem?_toList] at h3;exact ⟨u,h3,h4⟩⟩
    ·simp at hk
   refine OpOk.value (by simp only [execOp,hop]) hrun (Ext.newRow G ⟨0,i.size,w.heap.size,ic.toNat,_⟩) (R.newRow e hpos (by simpa using hcond.1) (size_madeCells _ _) hB) ?_ (x3n R _)
   simp only [RepV]
   refine ⟨by simp [Tie.newRow,R.n],_,_,rfl,fun L hL=>?_⟩
   simp only [Tie.newRow,R.n,if_true,Option.some.injEq] at hL
   subst hL
   exact ⟨Nat.le_refl _,fun _=>⟨hcond.1,⟨by simp,by simpa using hcond.1⟩,fun _=>by simp⟩⟩
  ·simp at hs
 ·simp at hs
theorem xjI {t:TypeId} {n:Option Nat} {x:Operand} {x':Opd} (hop:o.op=.load t x) (hgl:x0V G gl) (he:x0w G en a.tmps) (R:Rel G h w) (hn:x3U P t=some n) (hx:opd gl x=some x')
  (hv:zl h n (x'.get en)=some v):OpOk P o a G h w v:=by
 obtain ⟨rx,h1,h2⟩:=xcX R hn (x0l hgl he hx) hv
 exact OpOk.quiet R (by simp only [execOp,hop]) h1 h2
theorem xhv {t:TypeId} {n:Nat} {x y:Operand} {x' y':Opd} (hop:o.op=.store t x y) (hgl:x0V G gl) (he:x0w G en a.tmps) (R:Rel G h w) (hn:x2P P t=some n) (hx:opd gl x=some x') (hy:opd gl y=some y')
  (hv:x0y base h n (x'.get en) (y'.get en)=some h'):OpOk P o a G h' w .undef:=by
 obtain ⟨w',h1,h2,hb⟩:=xf1 R hn (x0l hgl he hx) (x0l hgl he hy) hv
 refine ⟨undef,w',G,.inr ⟨?_,rfl⟩,Ext.refl G,h2,by simp [RepV],hb⟩
 simp only [execOp,hop,Sem.run_bind,h1,Result.andThen_ok]
 rfl
theorem x9w:∀ (ns:List Int) (s:ByteArray),ns.foldl (fun r n=>r.push (UInt8.ofNat n.toNat)) s=⟨s.data++(ns.map fun n=>UInt8.ofNat n.toNat).toArray⟩
 | [],s=>by simp
 | n::ns,s=>by
  rw [List.foldl_cons,x9w ns]
  simp [ByteArray.push]
theorem xhu {src dst e:TypeId} {x:Operand} {x':Opd} {rows:List (List V)} {l:List UInt8} (hop:o.op=.convert src dst x) (hgl:x0V G gl) (he:x0w G en a.tmps) (R:Rel G h w) (hsrc:P.underlying src=some (.slice e)) (hdst:P.underlying dst=some .string)
  (hel:P.underlying e=some (.int .u8)) (hx:opd gl x=some x') (h1:x5u 1 h (x'.get en)=some rows) (h2:x72 rows=some l):OpOk P o a G h w (.str ⟨l.toArray⟩):=by
 obtain ⟨aa,cap,rs,hr,_,hfl,hc⟩:=x8Y R (x0l hgl he hx) h1
 obtain ⟨ns,rfl,rfl⟩:=x71 h2
 have hrs:rs=ns.map (Value.int .u8):=by
  apply List.ext_getElem?
  intro k
  by_cases hk:k<ns.length
  ·obtain ⟨_,h4⟩:=hfl.2 k [V.sc (.int .u8 ns[k])] (by simp [hk])
   obtain ⟨u,h5,h6⟩:=h4 0 _ rfl
   have:=h6.sc_inv
   subst this
   simp at h5
   rw [h5]
   simp [hk]
  ·have:=hfl.1
   simp at this
   rw [List.getElem?_eq_none (by omega),List.getElem?_eq_none (by simp;omega)]
 subst hrs
 refine OpOk.quiet (s:=convert src dst (a.eval x)) (r:=.string ⟨(ns.map fun n=>UInt8.ofNat n.toNat).toArray⟩) R (by simp only [execOp,hop]) ?_ (RepV.str _ _)
 rw [hr,run_convert_bytes_string w src dst e aa _ cap hsrc hel hdst]
 by_cases hne:ns=[]
 ·subst hne
  cases aa with
  | none=>rfl
  | some b =>
   have:=run_bytesToString (P:=P) w b 0 cap [] (by simp [loadCells,loadCellsFrom])
   exact this
 ·obtain ⟨b,oo,rfl,hcell⟩:=hc (by simpa using hne)
  have hload:=run_loadCells_list (P:=P) w ⟨b,oo,none⟩ (ns.map (Value.int .u8)) (fun j u hj=>by rw [x2g];exact hcell j u hj)
  have:=run_bytesToString (P:=P) w ⟨b,oo,none⟩ ns.length cap ns (by simpa using hload)
  rw [x9w] at this
  simp only [List.length_map]
  rw [this]
  simp
theorem xdS {src dst e:TypeId} {x:Operand} {x':Opd} {s:ByteArray} (hop:o.op=.convert src dst x) (hgl:x0V G gl) (he:x0w G en a.tmps) (R:Rel G h w) (hsrc:P.underlying src=some .string) (hdst:P.underlying dst=some (.slice e))
  (hel:P.underlying e=some (.int .u8)) (hx:opd gl x=some x') (h1:x'.get en=.sc (.string s)):OpOk P o a G h w (.slc .any 1 (x43 s)):=by
 have hxv:=x0l hgl he hx
 rw [h1] at hxv
 have hxv:=hxv.sc_inv
 have hrun:=run_bytes_of_string (P:=P) w src dst e s hsrc hdst hel
 have hlen:(x43 s).length=s.size:=by
  simp [x43]
 have hg:((x43 s).all fun r=>r.all x1h)=true:=by
  rw [List.all_eq_true]
  intro r hr
  simp only [x43,List.mem_map] at hr
  obtain ⟨c,_,rfl⟩:=hr
  rfl
 obtain ⟨hR,hV⟩:=R.drew.newSlc (ex:=.any) (rest:=List.replicate (grownCap w s.size 0 e-s.size) (.int .u8 0)) (cap:=grownCap w s.size 0 e) (x7q G s) hg (by rw [hlen];exact grownCap_ge _ _ _ _) (by simp [Cp.isFull]) e
  ((bytesRow s (grownCap w s.size 0 e)).size,(bytesRow s (grownCap w s.size 0 e)).size+1)
 have hrow:(s.data.toList.map (fun (c:UInt8)=>Value.int .u8 (c.toNat:Int))++List.replicate (grownCap w s.size 0 e-s.size) (Value.int .u8 0)).toArray=bytesRow s (grownCap w s.size 0 e):=by
  unfold bytesRow
  apply Array.ext'
  simp
 rw [hrow] at hR hV
 rw [hlen] at hV
 exact OpOk.value (by simp only [execOp,hop,hxv]) hrun (Ext.newFz R.drew _) hR hV (x4n R _)
theorem xay {t:TypeId} {s:ByteArray} {l e:Nat} {low high:Option Value} (ht:P.underlying t=some .string) (hl:OB 0 low l) (hh:OB s.size high e) (h1:l≤e) (h2:e≤s.size) :
  (Instr.sliceAt t (.string s) low high none).run P w=.ok (.string (s.extract l e)) w:=by
 simp [Instr.sliceAt,Instr.slice,run_underlying ht w,x6x (P:=P) (w:=w) (b:=false) hl hh (.inl ⟨rfl,rfl⟩:OB s.size none s.size) (by simp) h1 h2 (Nat.le_refl _)]
theorem x4Y (hgl:x0V G gl) (he:x0w G en a.tmps) {d n:Nat} {x:Option Operand} {y:Option Opd} (h:opdO gl x=some y) (hb:zf en d y=some n):OB d (x.map a.eval) n:=by
 cases x with
 | none =>
  simp only [opdO,Option.some.injEq] at h
  subst h
  simp only [zf,Option.some.injEq] at hb
  exact .inl ⟨rfl,hb.symm⟩
 | some x =>
  simp only [opdO,Option.map_eq_some_iff] at h
  obtain ⟨y,hy,rfl⟩:=h
  simp only [zf] at hb
  obtain ⟨k,i,h1,h2,h3⟩:=x3o (x0l hgl he hy) hb
  exact .inr ⟨k,i,by simp [h1],h2,h3⟩
end
end
section
open Go.RowKit (Below)
section
variable {P:Program} {gl:Nat→Option (List V)} {G:Tie} {en:Env} {h h':Heap} {a:Act} {w:World} {o:Oper} {base:Nat} {v:V}
theorem x2D {α β:Type} {x:Option α} {y:β} {p:α×β} (h:(x.map fun v=>(v,y))=some p):x=some p.1∧p.2=y:=by
 simp only [Option.map_eq_some_iff] at h
 obtain ⟨a,rfl,rfl⟩:=h
 exact ⟨rfl,rfl⟩
theorem xhJ (R:Rel G h w) (p:Addr) (hown:∀ b,G.real h b≠some p.block) (hb0:G.b0≤p.block) (hkp:G.kp p.block=false):∃ w',(markStringish p).run P w=.ok () w'∧Rel G h w'∧Bel G w w':=by
 unfold markStringish
 cases hsh:w.shape? p.block with
 | none=>exact ⟨w,by simp [hsh],R,Bel.refl _ _⟩
 | some q =>
  obtain ⟨e,n⟩:=q
  refine ⟨w.freeze ⟨p.block,n,none⟩ 1,by simp [hsh],?_⟩
  have hother:∀ c,c≠p.block→(w.freeze ⟨p.block,n,none⟩ 1).heap[c]?=w.heap[c]?:=by
   intro c hc
   unfold World.freeze
   rw [if_neg (by omega)]
   simp [Array.getElem?_modify,Ne.symm hc]
  have hcell:∀ c oo,(w.freeze ⟨p.block,n,none⟩ 1).cell? ⟨c,oo,none⟩=w.cell? ⟨c,oo,none⟩:=by
   intro c oo
   by_cases hc:c=p.block
   ·subst hc
    unfold World.cell? World.freeze
    rw [if_neg (by omega)]
    simp only [Array.getElem?_modify,if_true]
    cases hb:w.heap[p.block]? with
    | none=>rfl
    | some ob =>
     cases ob<;>rfl
   ·unfold World.cell?
    rw [hother c hc]
  have hreal:∀ b k,G.real h b=some k→k≠p.block:=fun b k hk e=>hown b (e▸hk)
  have hsize:(w.freeze ⟨p.block,n,none⟩ 1).heap.size=w.heap.size:=by
   unfold World.freeze
   rw [if_neg (by omega)]
   simp
  refine ⟨⟨R.n,fun b oo v hv=>by rw [hcell];exact R.fz b oo v hv,fun b t cs e=>?_,fun b t sz e rows eq=>?_,fun b es e=>?_,R.low,R.inj,?_,fun k hk=>?_⟩,?_,fun k hk=>hother k (fun e=>by rw [e,hkp] at hk;exact absurd hk (by simp))⟩
  ·obtain ⟨h1,rs,h2,h3⟩:=R.box b t cs e
   refine ⟨h1,rs,?_,h3⟩
   rw [hother _ (hreal b _ (by unfold Tie.real;rw [e]))]
   exact h2
  ·obtain ⟨h0,L,rs,h1,h2,h3,h4,h5,h6⟩:=R.row b t sz e rows eq
   refine ⟨h0,L,rs,h1,h2,h3,h4,?_,h6⟩
   rw [hother _ (hreal b _ (by unfold Tie.real;rw [eq];simp [h1]))]
   exact h5
  ·obtain ⟨l,clock,h1,h2⟩:=R.mp b es e
   refine ⟨l,clock,?_,h2⟩
   rw [hother _ (hreal b _ (by unfold Tie.real;rw [e]))]
   exact h1
  ·rw [hsize];exact R.hb0
  ·rw [hsize];exact R.kp k hk
  ·refine ⟨?_,?_,?_,by rw [hsize];exact Nat.le_refl _,fun k hk=>hother k (by omega)⟩<;>(unfold World.freeze;rw [if_neg (by omega)])
theorem xfU {t:TypeId} {k:LK} (h:(xb5 P).lookup t=some k):k=.i∧∃ i j,P.info? t=some i∧i.comparable=true∧P.underlying t=some (.int j):=by
 have hm:(t,k)∈xb5 P:=by
  generalize xb5 P=l at h
  induction l with
  | nil=>simp at h
  | cons x l ih =>
   obtain ⟨a,kb⟩:=x
   rw [List.lookup_cons] at h
   split at h
   ·rename_i e
    injection h with h
    have:=eq_of_beq e
    subst this;subst h
    simp
   ·exact List.mem_cons_of_mem _ (ih h)
 simp only [xb5,List.mem_filterMap] at hm
 obtain ⟨u,_,hm⟩:=hm
 split at hm
 ·rename_i i hi
  split at hm
  ·rename_i hcmp
   split at hm
   ·split at hm
    ·rename_i j hj
     simp only [Option.some.injEq,Prod.mk.injEq] at hm
     obtain ⟨rfl,rfl⟩:=hm
     exact ⟨rfl,i,j,hi,hcmp,hj⟩
    ·simp at hm
   ·simp at hm
  ·simp at hm
 ·simp at hm
theorem xbC {op:BinOp} {t:TypeId} {ms:Array (String×TypeId)} {neg:Bool} {x y:V} {b:Bool} {rx ry:Value} (hop:op=if neg then .neq else .eql) (ht:P.underlying t=some (.interface ms))
  (hx:RepV G x rx) (hy:RepV G y ry) (hv:xbD (xb5 P) x y=some b) (ox oy:Operand):(do eqGuard op t ox oy rx ry;binOp op t rx ry:Sem Value).run P w=.ok (.bool (if neg then !b else b)) w:=by
 have key:∀ (c:Bool),(eqGuard op t ox oy rx ry).run P w=.ok () w→(∀ d,(Op.equalIn (d+2) t rx ry).run P w=.ok c w)→(∀ z:Bool,binOp (if z then .neq else .eql) t rx ry=(do let r ← Op.equal t rx ry;pure (.bool (if z then !r else r)):Sem Value))→b=c→(do eqGuard op t ox oy rx ry;binOp op t rx ry:Sem Value).run P w=.ok (.bool (if neg then !b else b)) w:=by
  rintro c h1 h3 h5 rfl
  have h4:(Op.equal t rx ry).run P w=.ok b w:=by
   simp only [Op.equal,Op.maxDepth]
   exact h3 9998
  simp only [Sem.run_bind,h1,Result.andThen_ok]
  rw [hop,h5 neg]
  simp only [Sem.run_bind,h4,Result.andThen_ok,Sem.run_pure]
 unfold xbD at hv
 split at hv
 ·rename_i u a
  injection hv with hv
  have:=hx.sc_inv
  subst this
  simp only [RepV] at hy
  obtain ⟨rv,rfl,_⟩:=hy
  refine key false ?_ (fun d=>by simp [Op.equalIn,run_underlying ht]) (fun z=>by cases z<;>simp [binOp]) hv.symm
  cases neg<;>simp only [Bool.false_eq_true,if_false,if_true] at hop<;>subst hop<;>simp [eqGuard]
 ·rename_i u a
  injection hv with hv
  have:=hy.sc_inv
  subst this
  simp only [RepV] at hx
  obtain ⟨rv,rfl,_⟩:=hx
  refine key false ?_ (fun d=>by simp [Op.equalIn,run_underlying ht]) (fun z=>by cases z<;>simp [binOp]) hv.symm
  cases neg<;>simp only [Bool.false_eq_true,if_false,if_true] at hop<;>subst hop<;>simp [eqGuard]
 ·rename_i u1 a1 u2 a2
  simp only [RepV] at hx hy
  obtain ⟨r1,rfl,h1⟩:=hx
  obtain ⟨r2,rfl,h2⟩:=hy
  have hg:(eqGuard op t ox oy (.iface u1 r1) (.iface u2 r2)).run P w=.ok () w:=by
   cases neg<;>simp only [Bool.false_eq_true,if_false,if_true] at hop<;>subst hop<;>simp [eqGuard]
  have hb:∀ z:Bool,binOp (if z then .neq else .eql) t (.iface u1 r1) (.iface u2 r2)=(do let r ← Op.equal t (.iface u1 r1) (.iface u2 r2);pure (.bool (if z then !r else r)):Sem Value):=fun z=>by cases z<;>simp [binOp]
  split at hv
  ·rename_i hu
   subst hu
   simp only [Option.bind_eq_some_iff] at hv
   obtain ⟨k,hk,hv⟩:=hv
   obtain ⟨rfl,i,j,hi,hcmp,hj⟩:=xfU hk
   unfold x6J at hv
   split at hv
   ·rename_i k1 n1 k2 n2 _
    split at hv
    ·rename_i hkk
     subst hkk
     injection hv with hv
     have q1:=h1.sc_inv
     have q2:=h2.sc_inv
     subst q1;subst q2
     exact key (n1==n2) hg (fun d=>by simp [Op.equalIn,run_underlying ht,run_underlying hj,typeInfo,hi,hcmp]) hb hv.symm
    ·simp at hv
   ·rename_i e;simp at e
   ·rename_i e;simp at e
   ·simp at hv
  ·rename_i hu
   injection hv with hv
   exact key false hg (fun d=>by rw [Op.equalIn];simp only [Sem.run_bind,run_underlying ht,Result.andThen_ok,ne_eq,hu,not_false_eq_true,if_true,Sem.run_pure]) hb hv.symm
 ·simp at hv
theorem xhA {d:TypeDesc} (h:nkOf d=some .iface):∃ ms,d=.interface ms:=by
 unfold nkOf at h
 split at h
 ·injection h with h;exact absurd h (by simp)
 ·injection h with h;exact absurd h (by simp)
 ·exact ⟨_,rfl⟩
 ·injection h with h;exact absurd h (by simp)
 ·injection h with h;exact absurd h (by simp)
 ·simp at h
theorem xlo {op:BinOp} {t ty:TypeId} {x y:Operand} {ao:AOp} (hop:o.op=.binOp op t x y ty) (hgl:x0V G gl) (he:x0w G en a.tmps) (R:Rel G h w) (hc:x7G P gl op t x y=some ao)
  (hs:step base en h ao=some (v,h')):OpOk P o a G h' w v:=by
 simp only [x7G,Option.bind_eq_some_iff] at hc
 obtain ⟨d,hd,x',hx,y',hy,hc⟩:=hc
 have hrx:=x0l hgl he hx
 have hry:=x0l hgl he hy
 have hbin:ao=.bin op x' y'→OpOk P o a G h' w v:=by
  rintro rfl
  simp only [step] at hs
  obtain ⟨h1,h2⟩:=x2D hs
  simp only at h1 h2
  subst h2
  obtain ⟨r,h3,h4⟩:=xkD (P:=P) (w:=w) (t:=t) (ox:=x) (oy:=y) hrx hry h1
  exact OpOk.quiet R (by simp only [execOp,hop]) h3 h4
 have hbool:∀ neg,op=(if neg then .neq else .eql)→P.underlying t=some .bool→ao=.eqBool neg x' y'→OpOk P o a G h' w v:=by
  rintro neg hopn ht rfl
  simp only [step] at hs
  split at hs
  ·rename_i p q ep eq
   injection hs with hs
   simp only [Prod.mk.injEq] at hs
   obtain ⟨rfl,rfl⟩:=hs
   rw [ep] at hrx
   rw [eq] at hry
   have h3:=xes (P:=P) (w:=w) (neg:=neg) (p:=p) (q:=q) (ox:=x) (oy:=y) ht
   rw [← hrx.sc_inv,← hry.sc_inv,← hopn] at h3
   exact OpOk.quiet R (by simp only [execOp,hop]) h3 (RepV.bool _ _)
  ·simp at hs
 have hnil:∀ neg k,op=(if neg then .neq else .eql)→nkOf d=some k→(x55 k y=true∧ao=.isNil neg k x')∨(x55 k x=true∧ao=.isNil neg k y')→OpOk P o a G h' w v:=by
  intro neg k hopn hk hor
  have hnilv:∀ z:Operand,x55 k z=true→z=.const k.nilV:=by
   intro z hz
   unfold x55 at hz
   split at hz<;>first | rfl | simp at hz
  have hstep:∀ z',ao=.isNil neg k z'→∃ b,isNil k (z'.get en)=some b∧v=.bool (if neg then !b else b)∧h'=h:=by
   rintro z' rfl
   simp only [step,Option.map_eq_some_iff,Prod.mk.injEq] at hs
   obtain ⟨b,h1,h2,h3⟩:=hs
   exact ⟨b,h1,h2.symm,h3.symm⟩
  rcases hor with ⟨hz,hao⟩ | ⟨hz,hao⟩
  ·obtain ⟨b,h1,rfl,rfl⟩:=hstep _ hao
   have e:=hnilv _ hz
   have h3:=(xb4 (P:=P) (w:=w) (neg:=neg) hd hk hrx h1 x y (.inr ⟨_,e⟩)).1
   have ey:a.eval y=k.nilV:=by rw [e];rfl
   rw [← hopn,← ey] at h3
   exact OpOk.quiet R (by simp only [execOp,hop]) h3 (RepV.bool _ _)
  ·obtain ⟨b,h1,rfl,rfl⟩:=hstep _ hao
   have e:=hnilv _ hz
   have h3:=(xb4 (P:=P) (w:=w) (neg:=neg) hd hk hry h1 x y (.inl ⟨_,e⟩)).2
   have ex:a.eval x=k.nilV:=by rw [e];rfl
   rw [← hopn,← ex] at h3
   exact OpOk.quiet R (by simp only [execOp,hop]) h3 (RepV.bool _ _)
 have hifc:∀ neg,op=(if neg then .neq else .eql)→nkOf d=some .iface→ao=.eqIfc neg (xb5 P) x' y'→OpOk P o a G h' w v:=by
  rintro neg hopn hk rfl
  obtain ⟨ms,rfl⟩:=xhA hk
  simp only [step,Option.map_eq_some_iff,Prod.mk.injEq] at hs
  obtain ⟨b,h1,rfl,rfl⟩:=hs
  have h3:=xbC (P:=P) (w:=w) hopn hd hrx hry h1 x y
  exact OpOk.quiet R (by simp only [execOp,hop]) h3 (RepV.bool _ _)
 split at hc
 ·injection hc with hc;exact hbin hc.symm
 ·injection hc with hc;exact hbin hc.symm
 ·split at hc
  ·injection hc with hc;exact hbool false rfl hd hc.symm
  ·injection hc with hc;exact hbool true rfl hd hc.symm
  ·simp at hc
 ·rename_i te
  split at hc
  ·split at hc
   ·split at hc
    ·rename_i hz;injection hc with hc;exact hnil false .ptr rfl rfl (.inl ⟨hz,hc.symm⟩)
    ·split at hc
     ·rename_i hz;injection hc with hc;exact hnil false .ptr rfl rfl (.inr ⟨hz,hc.symm⟩)
     ·simp at hc
   ·split at hc
    ·rename_i hz;injection hc with hc;exact hnil true .ptr rfl rfl (.inl ⟨hz,hc.symm⟩)
    ·split at hc
     ·rename_i hz;injection hc with hc;exact hnil true .ptr rfl rfl (.inr ⟨hz,hc.symm⟩)
     ·simp at hc
   ·simp at hc
  ·simp only [Option.bind_eq_some_iff] at hc
   obtain ⟨s,hz,hc⟩:=hc
   split at hc
   ·simp at hc
   ·rename_i h0
    have fin:∀ neg,op=(if neg then .neq else .eql)→ao=.eqPtr neg x' y'→OpOk P o a G h' w v:=by
     rintro neg hopn rfl
     simp only [step,Option.map_eq_some_iff,Prod.mk.injEq] at hs
     obtain ⟨b,h1,rfl,rfl⟩:=hs
     have h3:=xbB (P:=P) R hopn hd hz h0 hrx hry h1 x y
     exact OpOk.quiet R (by simp only [execOp,hop]) h3 (RepV.bool _ _)
    split at hc
    ·injection hc with hc;exact fin false rfl hc.symm
    ·injection hc with hc;exact fin true rfl hc.symm
    ·simp at hc
 ·simp only [Option.bind_eq_some_iff] at hc
  obtain ⟨k,hk,hc⟩:=hc
  split at hc
  ·split at hc
   ·rename_i hz;injection hc with hc;exact hnil false k rfl hk (.inl ⟨hz,hc.symm⟩)
   ·split at hc
    ·rename_i hz;injection hc with hc;exact hnil false k rfl hk (.inr ⟨hz,hc.symm⟩)
    ·split at hc
     ·rename_i hki;injection hc with hc;exact hifc false rfl (hki▸hk) hc.symm
     ·simp at hc
  ·split at hc
   ·rename_i hz;injection hc with hc;exact hnil true k rfl hk (.inl ⟨hz,hc.symm⟩)
   ·split at hc
    ·rename_i hz;injection hc with hc;exact hnil true k rfl hk (.inr ⟨hz,hc.symm⟩)
    ·split at hc
     ·rename_i hki;injection hc with hc;exact hifc true rfl (hki▸hk) hc.symm
     ·simp at hc
  ·simp at hc
theorem xjJ {src dst:TypeId} {x:Operand} {ao:AOp} (hop:o.op=.convert src dst x) (hgl:x0V G gl) (he:x0w G en a.tmps) (R:Rel G h w) (hc:x6v P gl src dst x=some ao)
  (hs:step base en h ao=some (v,h')):OpOk P o a G h' w v:=by
 simp only [x6v,Option.bind_eq_some_iff] at hc
 obtain ⟨s,hsrc,d,hdst,x',hx,hc⟩:=hc
 have hrx:=x0l hgl he hx
 split at hc
 ·rename_i k0 k
  injection hc with hc
  subst hc
  simp only [step] at hs
  split at hs
  ·rename_i j n e
   injection hs with hs
   simp only [Prod.mk.injEq] at hs
   obtain ⟨rfl,rfl⟩:=hs
   rw [e] at hrx
   refine OpOk.quiet (s:=convert src dst (a.eval x)) R (by simp only [execOp,hop]) ?_ (RepV.int _ _ _)
   rw [hrx.sc_inv]
   simp [convert,run_underlying hsrc,run_underlying hdst,Conv.intToInt]
  ·simp at hs
 ·injection hc with hc
  subst hc
  simp only [step] at hs
  split at hs
  ·rename_i s e
   injection hs with hs
   simp only [Prod.mk.injEq] at hs
   obtain ⟨rfl,rfl⟩:=hs
   rw [e] at hrx
   refine OpOk.quiet (s:=convert src dst (a.eval x)) R (by simp only [execOp,hop]) ?_ (RepV.str _ _)
   rw [hrx.sc_inv]
   simp [convert,run_underlying hsrc,run_underlying hdst]
  ·simp at hs
 ·split at hc
  ·rename_i e he'
   injection hc with hc
   subst hc
   simp only [step,Option.bind_eq_some_iff,Option.map_eq_some_iff,Prod.mk.injEq] at hs
   obtain ⟨rows,h1,l,h2,rfl,rfl⟩:=hs
   exact xhu hop hgl he R hsrc hdst he' hx h1 h2
  ·simp at hc
 ·split at hc
  ·rename_i e he'
   injection hc with hc
   subst hc
   simp only [step] at hs
   split at hs
   ·rename_i s es
    split at hs
    ·injection hs with hs
     simp only [Prod.mk.injEq] at hs
     obtain ⟨rfl,rfl⟩:=hs
     exact xdS hop hgl he R hsrc hdst he' hx es
    ·simp at hs
   ·simp at hs
  ·simp at hc
 ·rename_i e0 e
  split at hc
  ·rename_i esd
   subst esd
   split at hc
   ·rename_i he'
    injection hc with hc
    subst hc
    simp only [step] at hs
    split at hs
    ·rename_i r rs es
     injection hs with hs
     simp only [Prod.mk.injEq] at hs
     obtain ⟨rfl,rfl⟩:=hs
     rw [es] at hrx
     have hV:=hrx
     simp only [RepV] at hrx
     obtain ⟨aa,cap,hr,hr1,hr2,hr3,b,oo,ha,hb0,hR⟩:=hrx
     rw [ha (by simp)] at hr
     have hee:e0=e:=by
      rw [hsrc] at hdst
      injection hdst with hdst
      injection hdst
     subst hee
     have hf:∃ u,G.fz b oo=some u:=by
      simp only [x0T] at hR
      obtain ⟨h1,h2,_⟩:=hR
      cases r with
      | nil=>simp at h1
      | cons c r =>
       simp only [RepF] at h2
       obtain ⟨⟨u,hu,_⟩,_⟩:=h2
       exact ⟨u,hu⟩
     obtain ⟨w',hm,hR',hbl⟩:=xhJ (P:=P) R ⟨b,oo,none⟩ (fun k hk=>by
      obtain ⟨u,hu⟩:=hf
      rw [(R.low k _ hk).2 oo] at hu
      simp at hu) (hb0 trivial (by simp)) (by
      cases hkc:G.kp b with
      | false=>rfl
      | true =>
       obtain ⟨u,hu⟩:=hf
       rw [(R.kp b hkc).2.1 oo] at hu
       simp at hu)
     refine OpOk.value (s:=convert src src (a.eval x)) (r:=a.eval x) (w':=w') (by simp only [execOp,hop]) ?_ (Ext.refl G) hR' hV hbl
     rw [hr]
     simp [convert,run_underlying hsrc,run_underlying he',hm]
    ·simp at hs
   ·simp at hc
  ·simp at hc
 ·simp only [Option.bind_eq_some_iff] at hc
  obtain ⟨z,hz,hc⟩:=hc
  split at hc
  ·simp at hc
  ·rename_i h0
   injection hc with hc
   subst hc
   simp only [step] at hs
   obtain ⟨h1,h2⟩:=x2D hs
   simp only at h1 h2
   subst h2
   obtain ⟨h3,h4⟩:=xdr (P:=P) R hsrc hdst hz h0 hrx h1
   exact OpOk.quiet R (by simp only [execOp,hop]) h3 h4
 ·simp only [Option.bind_eq_some_iff] at hc
  obtain ⟨z,hz,hc⟩:=hc
  split at hc
  ·rename_i hl
   injection hc with hc
   subst hc
   simp only [step] at hs
   obtain ⟨h1,h2⟩:=x2D hs
   simp only at h1 h2
   subst h2
   obtain ⟨h3,h4⟩:=xih (P:=P) R hsrc hdst hz hl hrx h1
   exact OpOk.quiet R (by simp only [execOp,hop]) h3 h4
  ·simp at hc
 ·simp at hc
end
end
section
open Go.RowKit (Below)
section
variable {P:Program} {gl:Nat→Option (List V)} {G:Tie} {en:Env} {h h':Heap} {a:Act} {w:World} {o:Oper} {base:Nat} {v:V}
theorem xaR {kt:TypeId} {kd:LK} {k:V} {r key:Value} (hk:x7z P kt=some kd) (hr:RepV G k r) (hi:xdX kd k=some key):∃ d,P.underlying kt=some d∧MapKept.IsKey d key∧r=key:=by
 unfold x7z at hk
 split at hk
 ·rename_i hd
  injection hk with hk
  subst hk
  unfold xdX at hi
  split at hi
  all_goals try (exfalso;simp_all;done)
  rename_i a e1 e2
  injection hi with hi
  exact ⟨_,hd,by rw [← hi];simp [MapKept.IsKey],by rw [hr.sc_inv,hi]⟩
 ·rename_i hd
  injection hk with hk
  subst hk
  unfold xdX at hi
  split at hi
  all_goals try (exfalso;simp_all;done)
  rename_i a e1 e2
  injection hi with hi
  exact ⟨_,hd,by rw [← hi];simp [MapKept.IsKey],by rw [hr.sc_inv,hi]⟩
 ·rename_i hd
  injection hk with hk
  subst hk
  unfold xdX at hi
  split at hi
  all_goals try (exfalso;simp_all;done)
  rename_i a e1 e2
  injection hi with hi
  exact ⟨_,hd,by rw [← hi];simp [MapKept.IsKey],by rw [hr.sc_inv,hi]⟩
 ·simp at hk
theorem x9r {d:TypeDesc} {key y:Value} {t:Bool} (hk:MapKept.IsKey d key) (he:xfM key y=some t):Instr.sameNow d key y=some t:=by
 unfold xfM at he
 split at he
 ·cases d<;>simp [MapKept.IsKey] at hk
  simpa [Instr.sameNow] using he
 ·cases d<;>simp [MapKept.IsKey] at hk
  simpa [Instr.sameNow] using he
 ·cases d<;>simp [MapKept.IsKey] at hk
  simpa [Instr.sameNow] using he
 ·simp at he
theorem xhP {key y:Value} (he:xfM key y=some true):key=y:=by
 unfold xfM at he
 split at he
 ·injection he with he
  rw [(MapKept.bytes_beq _ _).1 he]
 ·split at he
  ·rename_i hk
   injection he with he
   simp at he
   rw [hk,he]
  ·simp at he
 ·injection he with he
  simp at he
  rw [he]
 ·simp at he
theorem x8N {d:TypeDesc} {key:Value} (hk:MapKept.IsKey d key):∀ {es:List (Value×V)} {l:List MapEntry} {i:Nat} {r:Option (Nat×V)},RepM G es l→xeo key es i=some r →
  (r=none∧Instr.findNow d key l i=some none)∨∃ j v x,r=some (i+j,v)∧l[j]?=some x∧x.key=key∧RepV G v x.val∧Instr.findNow d key l i=some (some (i+j,x.val))
 | [],l,i,r,hR,hf=>by
  simp only [RepM] at hR
  subst hR
  simp only [xeo,Option.some.injEq] at hf
  exact .inl ⟨hf.symm,rfl⟩
 | e::es,l,i,r,hR,hf=>by
  simp only [RepM] at hR
  obtain ⟨x,rest,rfl,h1,h2,h3⟩:=hR
  unfold xeo at hf
  split at hf
  ·rename_i he
   injection hf with hf
   have hs:=x9r hk he
   rw [← h1] at hs
   exact .inr ⟨0,e.2,x,hf.symm,rfl,by rw [h1,xhP he],h2,by simp [Instr.findNow,hs]⟩
  ·rename_i he
   have hs:=x9r hk he
   rw [← h1] at hs
   rcases x8N hk h3 hf with ⟨q1,q2⟩ | ⟨j,v,y,q1,q2,q3,q4,q5⟩
   ·exact .inl ⟨q1,by simp [Instr.findNow,hs,q2]⟩
   ·exact .inr ⟨j+1,v,y,by rw [q1];congr 2;omega,by simpa using q2,q3,q4,by simp [Instr.findNow,hs,q5];omega⟩
  ·simp at hf
theorem xeI {t:TypeId} {z:V} (hz:xh4 P t=some z) (w:World):∃ r,(zeroValue t).run P w=.ok r w∧RepV G z r:=by
 simp only [xh4,Option.bind_eq_some_iff] at hz
 obtain ⟨r,⟨i,hi,hz⟩,hv⟩:=hz
 exact ⟨r,by simp [zeroValue,typeInfo,hi,hz],xar hv⟩
theorem xdR {t:TypeId} (hop:o.op=.makeMap t none) (R:Rel G h w):OpOk P o a G (h++[.mmap []]) w (.mp h.length):=by
 refine OpOk.value (s:=Instr.makeMap t none) (r:=.map (some w.heap.size)) (w':=w.alloc (.map #[] 0)) (by simp only [execOp,hop,Option.map_none]) (by simp [Instr.makeMap]) (Ext.newBox G w.heap.size) R.newMap ?_ (x3n R _)
 simp [RepV,Tie.newBox,R.n]
theorem xfp {t kt et:TypeId} {m k:Operand} {ok:Bool} {m' k':Opd} {kd:LK} {z:V} (hop:o.op=.lookup t m k ok) (hgl:x0V G gl) (he:x0w G en a.tmps) (R:Rel G h w) (ht:P.underlying t=some (.map kt et)) (hkd:x7z P kt=some kd) (hz:xh4 P et=some z)
  (hm:opd gl m=some m') (hk:opd gl k=some k') (hs:step base en h (.lookup kd z ok m' k')=some (v,h')):OpOk P o a G h' w v:=by
 simp only [step,Option.map_eq_some_iff,Prod.mk.injEq] at hs
 obtain ⟨⟨u,f⟩,h1,rfl,rfl⟩:=hs
 unfold xbP at h1
 simp only [Option.bind_eq_some_iff] at h1
 obtain ⟨key,hkey,h1⟩:=h1
 obtain ⟨d,hd,hik,hrk⟩:=xaR hkd (x0l hgl he hk) hkey
 have hrm:=x0l hgl he hm
 obtain ⟨rz,hzr,hzv⟩:=xeI (G:=G) hz w
 have fin:∀ (rv:Value),RepV G u rv→(Instr.lookup t (a.eval m) (a.eval k) ok).run P w=.ok (if ok then .tuple #[rv,.bool f] else rv) w→OpOk P o a G h w (if ok then V.tup [u,.bool f] else u):=by
  intro rv hv hrun
  refine OpOk.quiet R (by simp only [execOp,hop]) hrun ?_
  cases ok
  ·exact hv
  ·simp only [if_true,RepV]
   exact ⟨_,rfl,by simp only [RepL];exact ⟨_,_,rfl,hv,_,_,rfl,RepV.bool _ _,rfl⟩⟩
 split at h1
 ·rename_i em
  rw [em] at hrm
  injection h1 with h1
  simp only [Prod.mk.injEq] at h1
  obtain ⟨rfl,rfl⟩:=h1
  have hrm:=hrm.sc_inv
  have hc:(Instr.checkKey true 10000 kt key).run P w=.ok () w:=MapKept.run_checkKey hd hik true 9999
  have hf:(Instr.findKey kt key []).run P w=.ok none w:=MapKept.run_findKey hd rfl
  refine fin rz hzv ?_
  rw [hrm,hrk]
  cases ok<;>simp [Instr.lookup,run_underlying ht,hc,hf,hzr,Result.andThen]
 ·rename_i b em
  rw [em] at hrm
  split at h1
  ·rename_i es eb
   simp only [Option.map_eq_some_iff] at h1
   obtain ⟨r,hr,h1⟩:=h1
   obtain ⟨l,clock,hw,hR⟩:=R.mp b es eb
   simp only [RepV] at hrm
   obtain ⟨_,hrm⟩:=hrm
   have hc:∀ e,(Instr.checkKey e 10000 kt key).run P w=.ok () w:=fun e=>MapKept.run_checkKey hd hik e 9999
   rcases x8N hik hR hr with ⟨rfl,q2⟩ | ⟨j,v2,x,rfl,q2,q3,q4,q5⟩
   ·simp only [Prod.mk.injEq] at h1
    obtain ⟨rfl,rfl⟩:=h1
    have hf:=MapKept.run_findKey (P:=P) (w:=w) hd q2
    refine fin rz hzv ?_
    rw [hrm,hrk]
    cases ok<;>simp [Instr.lookup,run_underlying ht,MapKept.run_getObj_map hw,hc,hf,hzr,Result.andThen]
   ·simp only [Prod.mk.injEq] at h1
    obtain ⟨rfl,rfl⟩:=h1
    have hf:=MapKept.run_findKey (P:=P) (w:=w) hd q5
    refine fin x.val q4 ?_
    rw [hrm,hrk]
    cases ok<;>simp [Instr.lookup,run_underlying ht,MapKept.run_getObj_map hw,hc,hf,Result.andThen]
  ·simp at h1
 ·simp at h1
theorem xaC {d:TypeDesc} {key:Value} (hk:MapKept.IsKey d key):Instr.sameBits 10000 key key=true:=by
 cases d<;>cases key<;>simp_all [MapKept.IsKey,Instr.sameBits]
 exact (MapKept.bytes_beq _ _).2 rfl
theorem x7Q {t kt et:TypeId} {m k x:Operand} {m' k' x':Opd} {kd:LK} (hop:o.op=.mapUpdate t m k x∨o.op=.insert t m k x) (hgl:x0V G gl) (he:x0w G en a.tmps) (R:Rel G h w) (ht:P.underlying t=some (.map kt et)) (hkd:x7z P kt=some kd)
  (hm:opd gl m=some m') (hk:opd gl k=some k') (hx:opd gl x=some x') (hs:step base en h (.mapUpdate kd m' k' x')=some (v,h')):OpOk P o a G h' w v:=by
 simp only [step,Option.map_eq_some_iff,Prod.mk.injEq] at hs
 obtain ⟨h2,h1,rfl,rfl⟩:=hs
 unfold x9Q at h1
 simp only [Option.bind_eq_some_iff] at h1
 obtain ⟨key,hkey,h1⟩:=h1
 obtain ⟨d,hd,hik,hrk⟩:=xaR hkd (x0l hgl he hk) hkey
 have hrm:=x0l hgl he hm
 have hrx:=x0l hgl he hx
 split at h1
 ·rename_i b em
  rw [em] at hrm
  split at h1
  ·rename_i es eb
   split at h1
   ·rename_i hcond
    simp only [Option.map_eq_some_iff] at h1
    obtain ⟨r,hr,h1⟩:=h1
    obtain ⟨l,clock,hw,hR⟩:=R.mp b es eb
    simp only [RepV] at hrm
    obtain ⟨_,hrm⟩:=hrm
    have hreal:G.real h b=some (G.bx b):=by unfold Tie.real;rw [eb]
    have hc:(Instr.checkKey false 10000 kt key).run P w=.ok () w:=MapKept.run_checkKey hd hik false 9999
    have hlt:G.bx b<w.heap.size:=R.lt hreal
    have fin:∀ (l':Array MapEntry) (clock':Nat) (es':List (Value×V)),(Instr.mapUpdate t (a.eval m) (a.eval k) (a.eval x)).run P w=.ok () { w with heap:=w.heap.setIfInBounds (G.bx b) (.map l' clock') } →
      RepM G es' l'.toList→OpOk P o a G (h.set b (.mmap es')) w .undef:=by
     intro l' clock' es' hrun hR'
     refine ⟨undef,_,G,.inr ⟨?_,rfl⟩,Ext.refl G,R.setMap (w':={ w with heap:=w.heap.setIfInBounds (G.bx b) (.map l' clock') }) eb (by simp) ?_ (clock:=clock') (by simp [hlt]) hR',by simp [RepV],⟨⟨rfl,rfl,rfl,by simp,?_⟩,?_⟩⟩
     ·rcases hop with hop | hop<;>simp only [execOp,hop,Sem.run_bind,hrun,Result.andThen_ok]<;>rfl
     ·intro c hc _
      simp [Ne.symm hc]
     ·intro c hc
      have:=(R.low b _ hreal).1
      simp [show ¬ G.bx b=c by omega]
     ·intro c hc
      have:¬ G.bx b=c:=fun e=>by rw [← e,R.kp_of hreal] at hc;exact absurd hc (by simp)
      simp [this]
    rcases x8N hik hR hr with ⟨rfl,q2⟩ | ⟨j,v2,y,rfl,q2,q3,q4,q5⟩
    ·simp only at h1
     subst h1
     have hf:=MapKept.run_findKey (P:=P) (w:=w) hd q2
     refine fin (l.push { key,val:=a.eval x,born:=clock }) (clock+1) _ ?_ ?_
     ·rw [hrm,hrk]
      simp [Instr.mapUpdate,run_underlying ht,MapKept.run_getObj_map hw,hc,hf,MapKept.run_setObj_map _ hw,Result.andThen]
     ·rw [Array.toList_push]
      exact RepM.snoc rfl hrx hR
    ·simp only [Nat.zero_add] at h1
     subst h1
     have hf:=MapKept.run_findKey (P:=P) (w:=w) hd q5
     have hkeep:(Instr.keyThatStays key key).run P w=.ok key w:=by
      simp [Instr.keyThatStays,xaC hik]
     have hy:l[j]?=some y:=by rw [← Array.getElem?_toList];exact q2
     refine fin (l.modify j fun e=>{ e with key,val:=a.eval x }) clock _ ?_ ?_
     ·rw [hrm,hrk]
      simp only [Nat.zero_add] at hf
      simp [Instr.mapUpdate,run_underlying ht,MapKept.run_getObj_map hw,hc,hf,hy,q3,hkeep,MapKept.run_setObj_map _ hw,Result.andThen]
     ·have hm:(l.modify j fun e=>{ e with key,val:=a.eval x }).toList=l.toList.set j { y with key,val:=a.eval x }:=by
       apply List.ext_getElem?
       intro n
       simp only [Array.getElem?_toList,Array.getElem?_modify,List.getElem?_set]
       by_cases hn:j=n
       ·subst hn
        obtain ⟨hl,hl2⟩:=Array.getElem?_eq_some_iff.1 hy
        simp [hl,hl2]
       ·simp [hn]
      rw [hm]
      exact RepM.set rfl hrx hR
   ·simp at h1
  ·simp at h1
 ·simp at h1
theorem xhK {t kt et ty:TypeId} {x:V} {r:Value} {n:Nat} (R:Rel G h w) (ht:P.underlying t=some (.map kt et)) (hx:RepV G x r) (hv:xhL h x=some n):(Builtin.len_ #[t] ty #[r]).run P w=.ok (.int .i64 n) w:=by
 unfold xhL at hv
 split at hv
 ·injection hv with hv
  subst hv
  have:=hx.sc_inv
  subst this
  simp [Builtin.len_,run_underlying ht,goInt]
 ·rename_i b
  split at hv
  ·rename_i es eb
   injection hv with hv
   subst hv
   obtain ⟨l,clock,hw,hR⟩:=R.mp b es eb
   simp only [RepV] at hx
   obtain ⟨_,rfl⟩:=hx
   have:=hR.length
   simp only [Array.length_toList] at this
   simp [Builtin.len_,run_underlying ht,MapKept.run_getObj_map hw,goInt,this,Result.andThen]
  ·simp at hv
 ·simp at hv
end
end
section
open Go.RowKit (Below)
section
variable {P:Program} {gl:Nat→Option (List V)} {G:Tie} {en:Env} {h h':Heap} {a:Act} {w:World} {o:Oper} {base:Nat} {v:V}
theorem xbK {t:TypeId} {x:Operand} {lo hi:Option Operand} {x':Opd} {lo' hi':Option Opd} (hop:o.op=.slice t x lo hi none) (hgl:x0V G gl) (he:x0w G en a.tmps) (R:Rel G h w) (ht:P.underlying t=some .string)
  (hx:opd gl x=some x') (hl:opdO gl lo=some lo') (hh:opdO gl hi=some hi') (hs:step base en h (.sliceStr x' lo' hi')=some (v,h')):OpOk P o a G h' w v:=by
 have hrx:=x0l hgl he hx
 simp only [step] at hs
 split at hs
 ·rename_i s es
  simp only [Option.bind_eq_some_iff] at hs
  obtain ⟨l,h1,e,h2,hs⟩:=hs
  split at hs
  ·rename_i hc
   injection hs with hs
   simp only [Prod.mk.injEq] at hs
   obtain ⟨rfl,rfl⟩:=hs
   rw [es] at hrx
   have h3:=xay (P:=P) (w:=w) ht (x4Y hgl he hl h1) (x4Y hgl he hh h2) hc.1 hc.2
   rw [← hrx.sc_inv] at h3
   exact OpOk.quiet R (by simp only [execOp,hop,Option.map_none]) h3 (RepV.str _ _)
  ·simp at hs
 ·simp at hs
theorem xhw {t e:TypeId} {sz:Nat} {x:Operand} {lo hi mx:Option Operand} {x':Opd} {lo' hi' mx':Option Opd} (hop:o.op=.slice t x lo hi mx) (hgl:x0V G gl) (he:x0w G en a.tmps) (R:Rel G h w)
  (ht:P.underlying t=some (.slice e)) (hg:x2n P e=some sz)
  (hx:opd gl x=some x') (hl:opdO gl lo=some lo') (hh:opdO gl hi=some hi') (hm:opdO gl mx=some mx') (hs:step base en h (.slice sz x' lo' hi' mx')=some (v,h')):OpOk P o a G h' w v:=by
 have hrx:=x0l hgl he hx
 obtain ⟨i,z,hi1,hz1,rfl,_⟩:=x3L hg
 have hsz:x2P P e=some i.size:=by simp [x2P,hi1]
 simp only [step,Option.bind_eq_some_iff] at hs
 obtain ⟨l,h1,hs⟩:=hs
 have hlo:=x4Y hgl he hl h1
 have some_inv:∀ {q:Option Operand} {y:Opd},opdO gl q=some (some y)→∃ z,q=some z∧opd gl z=some y:=by
  intro q y hq
  cases q with
  | none=>simp [opdO] at hq
  | some z =>
   simp only [opdO,Option.map_eq_some_iff,Option.some.injEq] at hq
   obtain ⟨u,hu,rfl⟩:=hq
   exact ⟨z,rfl,hu⟩
 have none_inv:∀ {q:Option Operand},opdO gl q=some none→q=none:=by
  intro q hq
  cases q with
  | none=>rfl
  | some z=>simp [opdO] at hq
 have fin:∀ {hin mxn:Option Nat},(∀ d,OB d (hi.map a.eval) (hin.getD d))→(∀ d,OB d (mx.map a.eval) (mxn.getD d))→(hi.map a.eval=none→mx.map a.eval=none)→(mxn=none↔mx.map a.eval=none)→(hin=none→mxn=none) →
   zg h i.size (x'.get en) l hin mxn=some (v,h')→OpOk P o a G h' w v:=by
  intro hin mxn a1 a2 a3 a4 a5 hv
  obtain ⟨r,G',h3,h4,h5,h6⟩:=xdD R ht hsz hrx hlo a1 a2 a3 a4 a5 hv
  exact OpOk.value (by simp only [execOp,hop]) h3 h4 h5 h6 (Bel.refl _ _)
 split at hs
 ·have e1:=none_inv hh
  have e2:=none_inv hm
  subst e1;subst e2
  exact fin (fun d=>.inl ⟨rfl,rfl⟩) (fun d=>.inl ⟨rfl,rfl⟩) (fun _=>rfl) (by simp) (fun _=>rfl) hs
 ·rename_i eo
  have e2:=none_inv hm
  obtain ⟨z1,rfl,hz⟩:=some_inv hh
  subst e2
  simp only [Option.bind_eq_some_iff] at hs
  obtain ⟨en1,h2,hs⟩:=hs
  obtain ⟨k,i1,b1,b2,b3⟩:=x3o (x0l hgl he hz) h2
  exact fin (fun d=>.inr ⟨k,i1,by simp [b1],b2,by simpa using b3⟩) (fun d=>.inl ⟨rfl,rfl⟩) (fun _=>rfl) (by simp) (fun _=>rfl) hs
 ·rename_i eo mo
  obtain ⟨z1,rfl,hz⟩:=some_inv hh
  obtain ⟨z2,rfl,hz2⟩:=some_inv hm
  simp only [Option.bind_eq_some_iff] at hs
  obtain ⟨en1,h2,m,h3,hs⟩:=hs
  obtain ⟨k,i1,b1,b2,b3⟩:=x3o (x0l hgl he hz) h2
  obtain ⟨k',i2,c1,c2,c3⟩:=x3o (x0l hgl he hz2) h3
  exact fin (fun d=>.inr ⟨k,i1,by simp [b1],b2,by simpa using b3⟩) (fun d=>.inr ⟨k',i2,by simp [c1],c2,by simpa using c3⟩) (by simp) (by simp) (by simp) hs
 ·simp at hs
theorem xbL {t e:TypeId} {n sz:Nat} {x:Operand} {lo hi:Option Operand} {x':Opd} {lo' hi':Option Opd} (hop:o.op=.slice t x lo hi none) (hgl:x0V G gl) (he:x0w G en a.tmps) (R:Rel G h w)
  (ht:P.underlying t=some (.array n e)) (hg:x2n P e=some sz)
  (hx:opd gl x=some x') (hl:opdO gl lo=some lo') (hh:opdO gl hi=some hi') (hs:step base en h (.sliceArr n sz x' lo' hi')=some (v,h')):OpOk P o a G h' w v:=by
 have hrx:=x0l hgl he hx
 obtain ⟨i,z,hi1,hz1,rfl,_⟩:=x3L hg
 have hsz:x2P P e=some i.size:=by simp [x2P,hi1]
 simp only [step] at hs
 split at hs
 ·rename_i cs l e' es h1 h2
  split at hs
  ·rename_i hc
   obtain ⟨rfl,rfl,hnc,hpos,hn0⟩:=hc
   injection hs with hs
   simp only [Prod.mk.injEq] at hs
   obtain ⟨rfl,rfl⟩:=hs
   rw [es] at hrx
   simp only [RepV,Nat.add_zero] at hrx
   obtain ⟨b,oo,hr,hgr,hF⟩:=hrx
   have hb:=x6x (P:=P) (w:=w) (b:=false) (len:=e') (cap:=e') (x4Y hgl he hl h1) (x4Y hgl he hh h2) (.inl ⟨rfl,rfl⟩:OB e' none e') (by simp) (Nat.zero_le _) (Nat.le_refl _) (Nat.le_refl _)
   refine OpOk.quiet (s:=Instr.sliceAt t (a.eval x) (lo.map a.eval) (hi.map a.eval) none) (r:=.slice (some ⟨b,oo,none⟩) e' e') R (by simp only [execOp,hop,Option.map_none]) ?_ ?_
   ·rw [hr]
    simp [Instr.sliceAt,run_underlying ht w,Instr.sureAddr,hb,x4K hsz w,Addr.add]
   ·have hlen:((List.range e').map fun k=>(cs.drop (k*i.size)).take i.size).length=e':=by simp
    simp only [RepV]
    refine ⟨_,_,by rw [hlen],by rw [hlen];exact Nat.le_refl _,fun _=>by rw [hlen],?_,b,oo,fun _=>rfl,by simp,x0T.of_get fun k c hk=>?_⟩
    ·rw [List.all_eq_true]
     intro r hr
     simp only [List.mem_map] at hr
     obtain ⟨k,_,rfl⟩:=hr
     rw [List.all_eq_true] at hgr ⊢
     exact fun y hy=>hgr y (List.mem_of_mem_drop (List.mem_of_mem_take hy))
    ·simp only [List.getElem?_map,Option.map_eq_some_iff] at hk
     obtain ⟨k',hk',rfl⟩:=hk
     have hkl:k<e':=by
      rcases Nat.lt_or_ge k e' with hl | hl
      ·exact hl
      ·rw [List.getElem?_eq_none (by simpa using hl)] at hk'
       simp at hk'
     rw [List.getElem?_range hkl] at hk'
     injection hk' with hk'
     subst hk'
     have hroom:k*i.size+i.size≤cs.length:=x9Z (rs:=Array.replicate cs.length undef) (by simpa using hnc.symm) (Nat.le_refl _) hkl |> fun h=>by simpa using h
     refine ⟨by simp;omega,RepF.of_get fun j c hj=>?_⟩
     rw [List.getElem?_take] at hj
     split at hj
     ·rw [List.getElem?_drop] at hj
      have:=hF.get hj
      rwa [← Nat.add_assoc] at this
     ·simp at hj
  ·simp at hs
 ·rename_i b ep l e' es h1 h2
  split at hs
  ·rename_i z rows hra
   split at hs
   ·rename_i hc
    obtain ⟨rfl,rfl,hle,hen⟩:=hc
    injection hs with hs
    simp only [Prod.mk.injEq] at hs
    obtain ⟨rfl,rfl⟩:=hs
    rw [es] at hrx
    obtain ⟨ty,eq,hpos,L,rs,hL,hLe,hLs,hcp,hw,hss,hB⟩:=R.rowAt hra
    simp only [RepV] at hrx
    obtain ⟨hb',a',hr,hLx⟩:=hrx
    obtain ⟨k1,k2⟩:=hLx L hL
    have ha:=k2 hLe.symm
    simp only [Nat.zero_mul,Nat.zero_add] at ha
    subst ha
    have hb:=x6x (P:=P) (w:=w) (b:=false) (len:=rows.length) (cap:=rows.length) (x4Y hgl he hl h1) (x4Y hgl he hh h2) (.inl ⟨rfl,rfl⟩:OB rows.length none rows.length) (by simp) hle hen (Nat.le_refl _)
    refine OpOk.quiet (s:=Instr.sliceAt t (a.eval x) (lo.map a.eval) (hi.map a.eval) none) (r:=.slice (some (if rows.length=l then ⟨L.blk,0,none⟩ else ⟨L.blk,l*i.size,none⟩)) (e'-l) (rows.length-l)) R (by simp only [execOp,hop,Option.map_none]) ?_ ?_
    ·rw [hr]
     by_cases hq:rows.length=l
     ·rw [if_pos hq]
      simp [Instr.sliceAt,run_underlying ht w,Instr.sureAddr,hb,x4K hsz w,x2g]
      intro hq'
      exact absurd hq hq'
     ·rw [if_neg hq]
      simp [Instr.sliceAt,run_underlying ht w,Instr.sureAddr,hb,x4K hsz w,x2g]
      intro hq'
      exact absurd (by omega) hq
    ·simp only [RepV]
     refine ⟨hb',_,_,rfl,fun L' hL'=>?_⟩
     rw [hL] at hL'
     injection hL' with hL'
     subst hL'
     exact ⟨k1,fun _=>⟨by omega,by omega,fun h0=>by rw [if_neg (by omega),hLs]⟩⟩
   ·simp at hs
  ·simp at hs
 ·simp at hs
theorem xaI {mx:Bool} {ts:Array TypeId} {xs:Array Operand} {ys:List Opd} (hop:o.op=.call { callee:=.builtin (if mx then .max else .min),args:=xs,argTypes:=ts }) (hgl:x0V G gl) (he:x0w G en a.tmps) (R:Rel G h w)
  (hx:opds gl xs.toList=some ys) (hs:step base en h (.mnmx mx ys)=some (v,h')):OpOk P o a G h' w v:=by
 have hr:=x7c hgl he hx
 simp only [step] at hs
 split at hs
 ·rename_i y r ey
  obtain ⟨h1,h2⟩:=x2D hs
  simp only at h1 h2
  subst h2
  rw [ey] at hr
  simp only [RepL] at hr
  obtain ⟨q,rest,eq,hq,hrest⟩:=hr
  obtain ⟨z,h3,h4⟩:=x9n (P:=P) (w:=w) mx ts 0 hq hrest h1
  refine ⟨z,w,G,.inl ?_,Ext.refl G,R,h4,Bel.refl _ _⟩
  have hargs:(xs.map a.eval).toList=q::rest:=by simpa using eq
  cases mx
  ·simp only [Bool.false_eq_true,if_false] at hop h3
   simp only [execOp,hop,resolve,Sem.run_bind,Sem.run_pure,Result.andThen_ok,invoke,builtin,Builtin.min_,hargs,h3]
  ·simp only [if_true] at hop h3
   simp only [execOp,hop,resolve,Sem.run_bind,Sem.run_pure,Result.andThen_ok,invoke,builtin,Builtin.max_,hargs,h3]
 ·simp at hs
theorem xhf (hgl:x0V G gl) (he:x0w G en a.tmps) (R:Rel G h w) {ao:AOp} (hc:x2Q P gl o.op=some ao) (hs:step base en h ao=some (v,h')):OpOk P o a G h' w v:=by
 cases hop:o.op<;>rw [hop] at hc<;>simp only [x2Q,reduceCtorEq] at hc
 case move x =>
  simp only [Option.map_eq_some_iff] at hc
  obtain ⟨y,hy,rfl⟩:=hc
  simp only [step,Option.some.injEq,Prod.mk.injEq] at hs
  obtain ⟨rfl,rfl⟩:=hs
  exact xfo (.inl hop) hgl he R hy
 case assign x =>
  simp only [Option.map_eq_some_iff] at hc
  obtain ⟨y,hy,rfl⟩:=hc
  simp only [step,Option.some.injEq,Prod.mk.injEq] at hs
  obtain ⟨rfl,rfl⟩:=hs
  exact xfo (.inr hop) hgl he R hy
 case pick c x y =>
  simp only [Option.bind_eq_some_iff,Option.map_eq_some_iff] at hc
  obtain ⟨c',h1,x',h2,y',h3,rfl⟩:=hc
  simp only [step] at hs
  split at hs
  ·rename_i t ht
   simp only [Option.some.injEq,Prod.mk.injEq] at hs
   obtain ⟨rfl,rfl⟩:=hs
   exact xjH hop hgl he R h1 h2 h3 ht
  ·simp at hs
 case alloc t =>
  simp only [Option.map_eq_some_iff] at hc
  obtain ⟨zs,hz,hc⟩:=hc
  split at hc
  ·subst hc
   exact xfr hop R hz hs
  ·subst hc
   simp only [step,Option.some.injEq,Prod.mk.injEq] at hs
   obtain ⟨rfl,rfl⟩:=hs
   exact xhx hop R hz
 case box t x =>
  simp only [Option.map_eq_some_iff] at hc
  obtain ⟨y,hy,hc⟩:=hc
  split at hc
  ·subst hc
   exact xjK hop hgl he R hy hs
  split at hc
  ·subst hc
   exact xjL hop hgl he R hy hs
  ·subst hc
   simp only [step] at hs
   split at hs
   ·rename_i hone
    simp only [Option.some.injEq,Prod.mk.injEq] at hs
    obtain ⟨rfl,rfl⟩:=hs
    exact xln hop hgl he R hy hone
   ·simp at hs
 case build t ps =>
  simp only [Option.bind_eq_some_iff] at hc
  obtain ⟨d,hd,hc⟩:=hc
  split at hc
  ·rename_i fs
   simp only [Option.bind_eq_some_iff,Option.map_eq_some_iff] at hc
   obtain ⟨zs,hz,pl,hp,qs,hq,rfl⟩:=hc
   simp only [step,Option.map_eq_some_iff,Prod.mk.injEq] at hs
   obtain ⟨cs,hf,rfl,rfl⟩:=hs
   exact xcQ hop hgl he R hd hz (.inl ⟨fs,pl,rfl,hp,hq⟩) hf
  ·rename_i n e
   simp only [Option.bind_eq_some_iff,Option.map_eq_some_iff] at hc
   obtain ⟨zs,hz,s,hs',qs,hq,rfl⟩:=hc
   simp only [step,Option.map_eq_some_iff,Prod.mk.injEq] at hs
   obtain ⟨cs,hf,rfl,rfl⟩:=hs
   exact xcQ hop hgl he R hd hz (.inr ⟨n,e,s,rfl,hs',hq⟩) hf
  ·simp at hc
 case makeMap t r =>
  cases r with
  | none =>
   simp only [Option.some.injEq] at hc
   subst hc
   simp only [step,Option.some.injEq,Prod.mk.injEq] at hs
   obtain ⟨rfl,rfl⟩:=hs
   exact xdR hop R
  | some r=>simp at hc
 case lookup t m k ok =>
  simp only [Option.bind_eq_some_iff] at hc
  obtain ⟨d,hd,hc⟩:=hc
  split at hc
  ·simp only [Option.bind_eq_some_iff,Option.map_eq_some_iff] at hc
   obtain ⟨kd,hkd,z,hz,m',hm,k',hk,rfl⟩:=hc
   exact xfp hop hgl he R hd hkd hz hm hk hs
  ·simp at hc
 case mapUpdate t m k x =>
  simp only [Option.bind_eq_some_iff] at hc
  obtain ⟨d,hd,hc⟩:=hc
  split at hc
  ·simp only [Option.bind_eq_some_iff,Option.map_eq_some_iff] at hc
   obtain ⟨kd,hkd,m',hm,k',hk,x',hx,rfl⟩:=hc
   exact x7Q (.inl hop) hgl he R hd hkd hm hk hx hs
  ·simp at hc
 case insert t m k x =>
  simp only [Option.bind_eq_some_iff] at hc
  obtain ⟨d,hd,hc⟩:=hc
  split at hc
  ·simp only [Option.bind_eq_some_iff,Option.map_eq_some_iff] at hc
   obtain ⟨kd,hkd,m',hm,k',hk,x',hx,rfl⟩:=hc
   exact x7Q (.inr hop) hgl he R hd hkd hm hk hx hs
  ·simp at hc
 case buildSlice t n ps =>
  simp only [Option.bind_eq_some_iff] at hc
  obtain ⟨d,hd,hc⟩:=hc
  split at hc
  ·rename_i e
   simp only [Option.bind_eq_some_iff] at hc
   obtain ⟨sz,hg,zs,hz,hc⟩:=hc
   split at hc
   ·rename_i hn
    simp only [Option.map_eq_some_iff] at hc
    obtain ⟨qs,hq,rfl⟩:=hc
    exact xfq hop hgl he R hd hg hz hn hq hs
   ·simp at hc
  ·simp at hc
 case load t x =>
  simp only [Option.bind_eq_some_iff,Option.map_eq_some_iff] at hc
  obtain ⟨n,hn,y,hy,rfl⟩:=hc
  simp only [step] at hs
  obtain ⟨h1,h2⟩:=x2D hs
  simp only at h1 h2
  subst h2
  exact xjI hop hgl he R hn hy h1
 case store t x y =>
  simp only [Option.bind_eq_some_iff,Option.map_eq_some_iff] at hc
  obtain ⟨n,hn,x',hx,y',hy,rfl⟩:=hc
  simp only [step,Option.map_eq_some_iff,Prod.mk.injEq] at hs
  obtain ⟨h2,h1,rfl,rfl⟩:=hs
  exact xhv hop hgl he R hn hx hy h1
 case nilCheck x =>
  simp only [Option.map_eq_some_iff] at hc
  obtain ⟨y,hy,rfl⟩:=hc
  obtain ⟨h1,h2,rfl⟩:=xaK (P:=P) (w:=w) (ρ:=a.eval) hop (x0l hgl he hy) hs
  exact ⟨_,w,G,.inl h1,Ext.refl G,R,h2,Bel.refl _ _⟩
 case binOp op t x y ty =>
  have agg:((∃ fs,P.underlying t=some (.struct fs))∨∃ n e,P.underlying t=some (.array n e))→xiq P gl op t x y=some ao→OpOk P o a G h' w v:=by
   intro ht hc
   unfold xiq at hc
   simp only [Option.bind_eq_some_iff] at hc
   obtain ⟨ls,hl,x',hx,y',hy,hc⟩:=hc
   have fin:∀ neg,op=(if neg then .neq else .eql)→ao=.eqAgg neg ls x' y'→OpOk P o a G h' w v:=by
    rintro neg hopn rfl
    have hrx:=x0l hgl he hx
    have hry:=x0l hgl he hy
    simp only [step] at hs
    split at hs
    ·rename_i xs ys e1 e2
     simp only [Option.map_eq_some_iff,Prod.mk.injEq] at hs
     obtain ⟨res,h1,rfl,rfl⟩:=hs
     rw [e1] at hrx
     rw [e2] at hry
     have h3:=xgp (P:=P) (w:=w) (neg:=neg) (ox:=x) (oy:=y) ht hl hrx hry h1
     rw [← hopn] at h3
     exact OpOk.quiet R (by simp only [execOp,hop]) h3 (RepV.bool _ _)
    ·simp at hs
   split at hc
   ·injection hc with hc;exact fin false rfl hc.symm
   ·injection hc with hc;exact fin true rfl hc.symm
   ·simp at hc
  split at hc
  ·rename_i fs ht
   exact agg (.inl ⟨_,ht⟩) hc
  ·rename_i n e ht
   exact agg (.inr ⟨_,_,ht⟩) hc
  ·exact xlo hop hgl he R hc hs
 case unOp op t x =>
  simp only [Option.map_eq_some_iff] at hc
  obtain ⟨y,hy,rfl⟩:=hc
  simp only [step] at hs
  obtain ⟨h1,h2⟩:=x2D hs
  simp only at h1 h2
  subst h2
  obtain ⟨r,h3,h4⟩:=xkT (P:=P) (w:=w) (x0l hgl he hy) h1
  exact OpOk.quiet R (by simp only [execOp,hop]) h3 h4
 case convert s d x=>exact xjJ hop hgl he R hc hs
 case makeInterface t x =>
  simp only [Option.bind_eq_some_iff] at hc
  obtain ⟨d,hd,hc⟩:=hc
  have fin:∀ y,opd gl x=some y→ao=.makeIface t y→(∀ ms,d≠.interface ms)→OpOk P o a G h' w v:=by
   rintro y hy rfl hni
   simp only [step] at hs
   split at hs
   ·simp only [Option.some.injEq,Prod.mk.injEq] at hs
    obtain ⟨rfl,rfl⟩:=hs
    refine OpOk.quiet (s:=Instr.makeInterface t (a.eval x)) (r:=.iface t (a.eval x)) R (by simp only [execOp,hop]) ?_ (by simp only [RepV];exact ⟨_,rfl,x0l hgl he hy⟩)
    simp only [Instr.makeInterface,Sem.run_bind,run_underlying hd w,Result.andThen_ok]
    cases d<;>first | rfl | exact absurd rfl (hni _)
   ·simp at hs
  split at hc
  ·simp at hc
  ·rename_i hni
   simp only [Option.map_eq_some_iff] at hc
   obtain ⟨y,hy,rfl⟩:=hc
   exact fin y hy rfl hni
 case makeFunc f x c =>
  simp only [Option.bind_eq_some_iff,Option.map_eq_some_iff] at hc
  obtain ⟨x',hx,c',hcc,rfl⟩:=hc
  simp only [step,Option.some.injEq,Prod.mk.injEq] at hs
  obtain ⟨rfl,rfl⟩:=hs
  refine OpOk.quiet (s:=Instr.makeFunc f (x.map a.eval) (c.map a.eval)) (r:=.func f (x.map a.eval) (c.map a.eval)) R (by simp only [execOp,hop]) rfl ?_
  simp only [RepV]
  exact ⟨_,_,rfl,by simpa using x7c hgl he hx,by simpa using x7c hgl he hcc⟩
 case makeSlice t l c =>
  simp only [Option.bind_eq_some_iff] at hc
  obtain ⟨d,hd,hc⟩:=hc
  split at hc
  ·rename_i e
   simp only [Option.bind_eq_some_iff] at hc
   obtain ⟨sz,hg,zs,hz,hc⟩:=hc
   split at hc
   ·simp only [Option.bind_eq_some_iff,Option.map_eq_some_iff] at hc
    obtain ⟨l',hl,c',hcc,rfl⟩:=hc
    exact xaJ hop hgl he R hd hg hz hl hcc hs
   ·simp at hc
  ·simp at hc
 case slice t x lo hi mx =>
  simp only [Option.bind_eq_some_iff] at hc
  obtain ⟨d,hd,x',hx,lo',hl,hi',hh,mx',hm,hc⟩:=hc
  have hmn:mx'.isNone=true→mx=none:=by
   intro e
   cases mx with
   | none=>rfl
   | some m =>
    simp only [opdO,Option.map_eq_some_iff] at hm
    obtain ⟨q,_,rfl⟩:=hm
    simp at e
  split at hc
  ·split at hc
   ·rename_i e
    have:=hmn e
    subst this
    injection hc with hc
    subst hc
    exact xbK hop hgl he R hd hx hl hh hs
   ·simp at hc
  ·simp only [Option.map_eq_some_iff] at hc
   obtain ⟨sz,hg,rfl⟩:=hc
   exact xhw hop hgl he R hd hg hx hl hh hm hs
  ·split at hc
   ·rename_i e
    have:=hmn e
    subst this
    simp only [Option.map_eq_some_iff] at hc
    obtain ⟨sz,hg,rfl⟩:=hc
    exact xbL hop hgl he R hd hg hx hl hh hs
   ·simp at hc
  ·simp at hc
 case fieldAddr t x i =>
  simp only [Option.bind_eq_some_iff] at hc
  obtain ⟨d,hd,hc⟩:=hc
  split at hc
  ·rename_i fs
   simp only [Option.bind_eq_some_iff] at hc
   obtain ⟨f,hf,s,hs',hc⟩:=hc
   split at hc
   ·rename_i hpos
    simp only [Option.map_eq_some_iff] at hc
    obtain ⟨y,hy,rfl⟩:=hc
    simp only [step] at hs
    obtain ⟨h1,h2⟩:=x2D hs
    simp only at h1 h2
    subst h2
    obtain ⟨r,h3,h4⟩:=xam (P:=P) (w:=w) hd hf hs' hpos (x0l hgl he hy) h1
    exact OpOk.quiet R (by simp only [execOp,hop]) h3 h4
   ·simp at hc
  ·simp at hc
 case field t x i =>
  simp only [Option.bind_eq_some_iff] at hc
  obtain ⟨d,hd,hc⟩:=hc
  split at hc
  ·rename_i fs
   simp only [Option.bind_eq_some_iff,Option.map_eq_some_iff] at hc
   obtain ⟨f,hf,n,hn,y,hy,rfl⟩:=hc
   have hrx:=x0l hgl he hy
   simp only [step] at hs
   split at hs
   ·rename_i cs e
    obtain ⟨h1,h2⟩:=x2D hs
    simp only at h1 h2
    subst h2
    rw [e] at hrx
    obtain ⟨r,h3,h4⟩:=xge (P:=P) (w:=w) hd hf hn hrx h1
    exact OpOk.quiet R (by simp only [execOp,hop]) h3 h4
   ·simp at hs
  ·simp at hc
 case indexAddr t x i =>
  simp only [Option.bind_eq_some_iff] at hc
  obtain ⟨d,hd,x',hx,i',hi,hc⟩:=hc
  split at hc
  ·rename_i e
   simp only [Option.map_eq_some_iff] at hc
   obtain ⟨s,hs',rfl⟩:=hc
   simp only [step,Option.bind_eq_some_iff] at hs
   obtain ⟨k,hk,hs⟩:=hs
   obtain ⟨h1,h2⟩:=x2D hs
   simp only at h1 h2
   subst h2
   obtain ⟨r,h3,h4⟩:=xeb (P:=P) R hd hs' (x0l hgl he hx) (x0l hgl he hi) hk h1
   exact OpOk.quiet R (by simp only [execOp,hop]) h3 h4
  ·rename_i n e
   simp only [Option.map_eq_some_iff] at hc
   obtain ⟨s,hs',rfl⟩:=hc
   simp only [step,Option.bind_eq_some_iff] at hs
   obtain ⟨k,hk,hs⟩:=hs
   split at hs
   ·rename_i hlt
    obtain ⟨h1,h2⟩:=x2D hs
    simp only at h1 h2
    subst h2
    obtain ⟨r,h3,h4⟩:=xec (P:=P) (w:=w) hd hs' (x0l hgl he hx) (x0l hgl he hi) hk hlt h1
    exact OpOk.quiet R (by simp only [execOp,hop]) h3 h4
   ·simp at hs
  ·simp at hc
 case index t x i =>
  simp only [Option.bind_eq_some_iff] at hc
  obtain ⟨d,hd,x',hx,i',hi,hc⟩:=hc
  split at hc
  ·rename_i n e
   simp only [Option.bind_eq_some_iff,Option.map_eq_some_iff] at hc
   obtain ⟨m,hm,s,hs',rfl⟩:=hc
   simp only [step,Option.bind_eq_some_iff] at hs
   obtain ⟨k,hk,hs⟩:=hs
   have hrx:=x0l hgl he hx
   split at hs
   ·rename_i hlt
    split at hs
    ·rename_i cs ec
     obtain ⟨h1,h2⟩:=x2D hs
     simp only at h1 h2
     subst h2
     rw [ec] at hrx
     obtain ⟨r,h3,h4⟩:=xee (P:=P) (w:=w) hd hm hs' hrx (x0l hgl he hi) hk hlt h1
     exact OpOk.quiet R (by simp only [execOp,hop]) h3 h4
    ·simp at hs
   ·simp at hs
  ·injection hc with hc
   subst hc
   simp only [step,Option.bind_eq_some_iff] at hs
   obtain ⟨k,hk,hs⟩:=hs
   have hrx:=x0l hgl he hx
   split at hs
   ·rename_i s es
    simp only [Option.map_eq_some_iff,Prod.mk.injEq] at hs
    obtain ⟨c,h1,rfl,rfl⟩:=hs
    rw [es] at hrx
    have h3:=xed (P:=P) (w:=w) hd hrx (x0l hgl he hi) hk h1
    exact OpOk.quiet R (by simp only [execOp,hop]) h3 (RepV.int _ _ _)
   ·simp at hs
  ·simp at hc
 case extract x i =>
  simp only [Option.map_eq_some_iff] at hc
  obtain ⟨y,hy,rfl⟩:=hc
  have hrx:=x0l hgl he hy
  simp only [step] at hs
  split at hs
  ·rename_i vs es
   obtain ⟨h1,h2⟩:=x2D hs
   simp only at h1 h2
   subst h2
   rw [es] at hrx
   simp only [RepV] at hrx
   obtain ⟨rs,hr,hl⟩:=hrx
   obtain ⟨r,h3,h4⟩:=hl.get h1
   refine OpOk.quiet (s:=Instr.extract (a.eval x) i) R (by simp only [execOp,hop]) ?_ h4
   rw [hr]
   rw [Array.getElem?_toList] at h3
   simp [Instr.extract,h3]
  ·simp at hs
 case call c =>
  obtain ⟨callee,args,ts⟩:=c
  simp only [x7o] at hc
  split at hc
  ·simp only [Option.bind_eq_some_iff,Option.map_eq_some_iff] at hc
   obtain ⟨f,hf,xs,hx,rfl⟩:=hc
   simp [step] at hs
  ·rename_i b
   have hres:execOp a.eval o=builtin b ts o.type (args.map fun | .const _=>true | _=>false) (args.map a.eval):=by
    simp only [execOp,hop,resolve]
    rfl
   unfold x4X at hc
   split at hc
   ·rename_i t x e1 e2
    have ets:ts = #[t]:=by rw [← Array.toArray_toList (xs:=ts),e1]
    have exs:args = #[x]:=by rw [← Array.toArray_toList (xs:=args),e2]
    subst ets;subst exs
    simp only [Option.bind_eq_some_iff] at hc
    obtain ⟨d,hd,hc⟩:=hc
    have hgo:∀ {n:Nat},(Builtin.len_ #[t] o.type #[a.eval x]).run P w=.ok (goInt n) w→v=.int n→h'=h→OpOk P o a G h' w v:=by
     rintro n h1 rfl rfl
     refine ⟨goInt n,w,G,.inl ?_,Ext.refl G,R,RepV.int _ _ _,Bel.refl _ _⟩
     rw [hres]
     simp only [builtin,List.map_toArray,List.map_cons,List.map_nil,Sem.run_bind,h1,Result.andThen_ok]
     rfl
    split at hc
    ·simp only [Option.map_eq_some_iff] at hc
     obtain ⟨y,hy,rfl⟩:=hc
     have hrx:=x0l hgl he hy
     simp only [step] at hs
     split at hs
     ·rename_i s es
      simp only [Option.some.injEq,Prod.mk.injEq] at hs
      rw [es] at hrx
      refine hgo (n:=s.size) ?_ hs.1.symm hs.2.symm
      rw [hrx.sc_inv]
      simp [Builtin.len_,run_underlying hd w]
     ·simp at hs
    ·simp only [Option.map_eq_some_iff] at hc
     obtain ⟨y,hy,rfl⟩:=hc
     have hrx:=x0l hgl he hy
     simp only [step] at hs
     obtain ⟨h1,h2⟩:∃ n:Nat,zk (y.get en)=some n∧v=.int n∧h'=h:=by
      simp only [Option.map_eq_some_iff,Prod.mk.injEq] at hs
      obtain ⟨n,h1,h2,h3⟩:=hs
      exact ⟨n,h1,h2.symm,h3.symm⟩
     rename_i e0 n
     have hsl:∃ b c,a.eval x=.slice b h1 c:=by
      obtain ⟨h2,_⟩:=h2
      unfold zk at h2
      split at h2
      ·rename_i ee
       rw [ee] at hrx
       injection h2 with h2
       subst h2
       simp only [RepV] at hrx
       obtain ⟨b,c,hr,_⟩:=hrx
       exact ⟨b,c,hr⟩
      ·rename_i ee
       rw [ee] at hrx
       injection h2 with h2
       subst h2
       simp only [RepV] at hrx
       obtain ⟨_,b,c,hr,_⟩:=hrx
       exact ⟨_,c,hr⟩
      ·rename_i ee
       rw [ee] at hrx
       injection h2 with h2
       subst h2
       exact ⟨none,0,hrx.sc_inv⟩
      ·simp at h2
     obtain ⟨b,c,hr⟩:=hsl
     refine hgo (n:=h1) ?_ h2.2.1 h2.2.2
     rw [hr]
     simp [Builtin.len_,run_underlying hd w]
    ·rename_i n e
     injection hc with hc
     subst hc
     simp only [step,Option.some.injEq,Prod.mk.injEq] at hs
     refine hgo (n:=n) ?_ hs.1.symm hs.2.symm
     simp [Builtin.len_,run_underlying hd w]
    ·simp only [Option.map_eq_some_iff] at hc
     obtain ⟨y,hy,rfl⟩:=hc
     simp only [step,Option.map_eq_some_iff,Prod.mk.injEq] at hs
     obtain ⟨n,h1,h2,h3⟩:=hs
     exact hgo (n:=n) (xhK R hd (x0l hgl he hy) h1) h2.symm h3.symm
    ·simp at hc
   ·rename_i t u s x e1 e2
    have ets:ts = #[t,u]:=by rw [← Array.toArray_toList (xs:=ts),e1]
    have exs:args = #[s,x]:=by rw [← Array.toArray_toList (xs:=args),e2]
    subst ets;subst exs
    simp only [Option.bind_eq_some_iff] at hc
    obtain ⟨d,hd,hc⟩:=hc
    split at hc
    ·rename_i e
     simp only [Option.bind_eq_some_iff] at hc
     obtain ⟨sz,hg,du,hdu,hc⟩:=hc
     have fin:(P.underlying u=some .string∨∃ e',P.underlying u=some (.slice e'))→∀ s' x',opd gl s=some s'→opd gl x=some x'→ao=.append e sz s' x'→OpOk P o a G h' w v:=by
      rintro hu s' x' hs' hx' rfl
      simp only [step,Option.bind_eq_some_iff] at hs
      obtain ⟨new,h1,h2⟩:=hs
      obtain ⟨r,w',G',h3,h4,h5,h6,h7⟩:=xeC (P:=P) (ty:=o.type) R hd hu hg (x0l hgl he hs') (x0l hgl he hx') h1 h2
      refine ⟨r,w',G',.inl ?_,h4,h5,h6,h7⟩
      rw [hres]
      simp only [builtin,List.map_toArray,List.map_cons,List.map_nil,Sem.run_bind,h3,Result.andThen_ok]
      rfl
     split at hc
     ·simp only [Option.bind_eq_some_iff,Option.map_eq_some_iff] at hc
      obtain ⟨s',hs',x',hx',rfl⟩:=hc
      exact fin (.inr ⟨_,hdu⟩) s' x' hs' hx' rfl
     ·simp only [Option.bind_eq_some_iff,Option.map_eq_some_iff] at hc
      obtain ⟨s',hs',x',hx',rfl⟩:=hc
      exact fin (.inl hdu) s' x' hs' hx' rfl
     ·simp at hc
    ·simp at hc
   ·rename_i t x e1 e2
    have ets:ts = #[t]:=by rw [← Array.toArray_toList (xs:=ts),e1]
    have exs:args = #[x]:=by rw [← Array.toArray_toList (xs:=args),e2]
    subst ets;subst exs
    simp only [Option.bind_eq_some_iff] at hc
    obtain ⟨d,hd,hc⟩:=hc
    split at hc
    ·simp only [Option.map_eq_some_iff] at hc
     obtain ⟨y,hy,rfl⟩:=hc
     simp only [step,Option.map_eq_some_iff,Prod.mk.injEq] at hs
     obtain ⟨n,h1,rfl,rfl⟩:=hs
     have h3:=xkz (P:=P) (w:=w) (ty:=o.type) hd (x0l hgl he hy) h1
     refine ⟨_,w,G,.inl ?_,Ext.refl G,R,RepV.int _ _ _,Bel.refl _ _⟩
     rw [hres]
     simp only [builtin,List.map_toArray,List.map_cons,List.map_nil,Sem.run_bind,h3,Result.andThen_ok]
     rfl
    ·simp at hc
   ·rename_i t u s x e1 e2
    have ets:ts = #[t,u]:=by rw [← Array.toArray_toList (xs:=ts),e1]
    have exs:args = #[s,x]:=by rw [← Array.toArray_toList (xs:=args),e2]
    subst ets;subst exs
    simp only [Option.bind_eq_some_iff] at hc
    obtain ⟨d,hd,hc⟩:=hc
    split at hc
    ·rename_i e
     simp only [Option.bind_eq_some_iff] at hc
     obtain ⟨sz,hg,du,hdu,hc⟩:=hc
     have fin:∀ s' x',opd gl s=some s'→opd gl x=some x'→ao=.copy sz s' x'→OpOk P o a G h' w v:=by
      rintro s' x' hs' hx' rfl
      simp only [step,Option.bind_eq_some_iff,Option.map_eq_some_iff,Prod.mk.injEq] at hs
      obtain ⟨new,h1,⟨k,h2⟩,h3,rfl,rfl⟩:=hs
      obtain ⟨w',h4,h5,h6⟩:=xie (P:=P) (u:=u) (ty:=o.type) R hd hg (x0l hgl he hs') (x0l hgl he hx') h1 h3
      refine ⟨goInt k,w',G,.inl ?_,Ext.refl G,h5,RepV.int _ _ _,h6⟩
      rw [hres]
      simp only [builtin,List.map_toArray,List.map_cons,List.map_nil,Sem.run_bind,h4,Result.andThen_ok]
      rfl
     split at hc
     ·simp only [Option.bind_eq_some_iff,Option.map_eq_some_iff] at hc
      obtain ⟨s',hs',x',hx',rfl⟩:=hc
      exact fin s' x' hs' hx' rfl
     ·simp only [Option.bind_eq_some_iff,Option.map_eq_some_iff] at hc
      obtain ⟨s',hs',x',hx',rfl⟩:=hc
      exact fin s' x' hs' hx' rfl
     ·simp at hc
    ·simp at hc
   ·rename_i t x e1 e2
    have ets:ts = #[t]:=by rw [← Array.toArray_toList (xs:=ts),e1]
    have exs:args = #[x]:=by rw [← Array.toArray_toList (xs:=args),e2]
    subst ets;subst exs
    simp only [Option.bind_eq_some_iff] at hc
    obtain ⟨d,hd,hc⟩:=hc
    split at hc
    ·simp only [Option.bind_eq_some_iff,Option.map_eq_some_iff] at hc
     obtain ⟨sz,hg,zs,hz,y,hy,rfl⟩:=hc
     simp only [step,Option.bind_eq_some_iff,Option.map_eq_some_iff,Prod.mk.injEq] at hs
     obtain ⟨n,h1,⟨k,h2⟩,h3,rfl,rfl⟩:=hs
     obtain ⟨w',h4,h5,h6⟩:=xgw (P:=P) (ty:=o.type) R hd hg hz (x0l hgl he hy) h1 h3
     refine ⟨.tuple #[],w',G,.inl ?_,Ext.refl G,h5,by simp [RepV,RepL],h6⟩
     rw [hres]
     simp only [builtin,List.map_toArray,List.map_cons,List.map_nil,Sem.run_bind,h4,Result.andThen_ok]
     rfl
    ·simp at hc
   ·rename_i x e2
    have exs:args = #[x]:=by rw [← Array.toArray_toList (xs:=args),e2]
    subst exs
    simp only [Option.map_eq_some_iff] at hc
    obtain ⟨y,hy,rfl⟩:=hc
    simp only [step] at hs
    obtain ⟨h1,h2⟩:=x2D hs
    simp only at h1 h2
    subst h2
    obtain ⟨r,h3,h4⟩:=x9Y (P:=P) (ts:=ts) (ty:=o.type) R (x0l hgl he hy) h1
    refine ⟨r,w,G,.inl ?_,Ext.refl G,R,h4,Bel.refl _ _⟩
    rw [hres]
    simp only [builtin,List.map_toArray,List.map_cons,List.map_nil,Sem.run_bind,h3,Result.andThen_ok]
    rfl
   ·rename_i pt it x n e1 e2
    have ets:ts = #[pt,it]:=by rw [← Array.toArray_toList (xs:=ts),e1]
    have exs:args = #[x,n]:=by rw [← Array.toArray_toList (xs:=args),e2]
    subst ets;subst exs
    simp only [Option.bind_eq_some_iff] at hc
    obtain ⟨d,hd,hc⟩:=hc
    split at hc
    ·split at hc
     ·rename_i hcell
      simp only [Option.bind_eq_some_iff,Option.map_eq_some_iff] at hc
      obtain ⟨x',hx,n',hn,rfl⟩:=hc
      simp only [step] at hs
      split at hs
      ·rename_i k ek
       split at hs
       ·rename_i h0
        have hrn:=x0l hgl he hn
        rw [ek] at hrn
        have hrn:=hrn.sc_inv
        obtain ⟨r,w',h3,h4,h5,h6⟩:=xbx (P:=P) (it:=it) (ty:=o.type) R hd hcell (x0l hgl he hx) hs
        refine ⟨r,w',G,.inl ?_,Ext.refl G,h4,h5,h6⟩
        rw [hres]
        have hk:(Value.int .i64 (k.toNat:Int))=.int .i64 k:=by rw [Int.toNat_of_nonneg h0]
        rw [hk] at h3
        simp only [builtin,List.map_toArray,List.map_cons,List.map_nil,Sem.run_bind,hrn,h3,Result.andThen_ok]
        rfl
       ·simp at hs
      ·simp at hs
     ·simp at hc
    ·simp at hc
   ·simp only [Option.map_eq_some_iff] at hc
    obtain ⟨ys,hy,rfl⟩:=hc
    exact xaI (mx:=true) hop hgl he R hy hs
   ·simp only [Option.map_eq_some_iff] at hc
    obtain ⟨ys,hy,rfl⟩:=hc
    exact xaI (mx:=false) hop hgl he R hy hs
   ·simp at hc
  ·simp at hc
end
end
section
open Go.RowKit (Below)
def x9M (P:Program) (f:FuncId) (args:Array Value) (w:World) (R:Value→World→Prop):Prop :=
 match (callFunc f args).run P w with
 | .ok (.value v) w'=>R v w'
 | .ok (.enter g as) w'=>Calls P g as w' fun
   | .returned v,w''=>R v w''
   | _,_=>False
 | .ok (.row row as) w'=>Rows P row as w' R
 | _=>False
def x3g (base:Nat) (h:Heap):Prop :=
 ∀ b,b<base→(∀ t cs,h[b]?=some (.box t cs)→x0B base cs=true)∧(∀ t sz e rows,h[b]?=some (.row t sz e rows)→∀ r∈rows,x0B base r=true)∧(∀ es,h[b]?=some (.mmap es)→∀ e∈es,x0n base e.2=true)
def Grow (base:Nat) (h h':Heap):Prop:=h.length≤h'.length∧∀ n,n≤base→n≤h.length→x3g n h→x3g n h'
theorem Grow.refl (base:Nat) (h:Heap):Grow base h h:=⟨Nat.le_refl _,fun _ _ _ h=>h⟩
theorem Grow.trans {base:Nat} {a b c:Heap} (h:Grow base a b) (k:Grow base b c):Grow base a c :=
 ⟨Nat.le_trans h.1 k.1,fun n h1 h2 ho=>k.2 n h1 (Nat.le_trans h2 h.1) (h.2 n h1 h2 ho)⟩
structure Reach (G:Tie) (w:World) (h':Heap) (w':World) (G':Tie):Prop where
 ext:Ext G G'
 rel:Rel G' h' w'
 below:Bel G w w'
theorem Reach.refl {G:Tie} {h:Heap} {w:World} (R:Rel G h w):Reach G w h w G:=⟨Ext.refl G,R,Bel.refl _ _⟩
theorem Reach.trans {G G' G'':Tie} {h h':Heap} {w w' w'':World} (a:Reach G w h w' G') (b:Reach G' w' h' w'' G''):Reach G w h' w'' G'' :=
 ⟨a.ext.trans b.ext,b.rel,a.below.trans ⟨by have:=b.below.bel;rwa [a.ext.b0] at this,by have:=b.below.kept;rwa [a.ext.kp] at this⟩⟩
structure CallOk (P:Program) (gl:Nat→Option (List V)) (call:x3T):Prop where
 grow:∀ base f args h r h',call base f args h=some (r,h')→base≤h.length→Grow base h h'
 runs:∀ base f args h r h',call base f args h=some (r,h')→base≤h.length→∀ G w vals,x0V G gl→Rel G h w→RepL G args vals.toList →
  x9M P f vals w fun rv w'=>∃ G',Reach G w h' w' G'∧RepV G' r rv
theorem x32 {n:Nat}:∀ {l:List V},x0B n l=true↔∀ v∈l,x0n n v=true
 | []=>by simp [x0B]
 | v::r=>by simp [x0B,x32]
mutual
theorem x8u {n m:Nat} (h:n≤m):∀ {v:V},x0n n v=true→x0n m v=true
 | .undef,_=>by simp [x0n]
 | .opq,_=>by simp [x0n]
 | .sc _,_=>by simp [x0n]
 | .slc ..,_=>by simp [x0n]
 | .eptr ..,_=>by simp [x0n]
 | .ptr ..,hv=>by simp [x0n] at hv ⊢;omega
 | .hsl ..,hv=>by simp [x0n] at hv ⊢;omega
 | .rptr ..,hv=>by simp [x0n] at hv ⊢;omega
 | .mp _,hv=>by simp [x0n] at hv ⊢;omega
 | .fn f a c,hv=>by
  simp only [x0n,Bool.and_eq_true] at hv ⊢
  exact ⟨x3J h hv.1,x3J h hv.2⟩
 | .agg cs,hv=>by
  simp only [x0n] at hv ⊢
  exact x3J h hv
 | .tup cs,hv=>by
  simp only [x0n] at hv ⊢
  exact x3J h hv
 | .ifc t v,hv=>by
  simp only [x0n] at hv ⊢
  exact x8u h hv
theorem x3J {n m:Nat} (h:n≤m):∀ {l:List V},x0B n l=true→x0B m l=true
 | [],_=>by simp [x0B]
 | v::r,hv=>by
  simp only [x0B,Bool.and_eq_true] at hv ⊢
  exact ⟨x8u h hv.1,x3J h hv.2⟩
end
theorem x3g.app {n:Nat} {h:Heap} (ho:x3g n h) (hn:n≤h.length) (o:Obj):x3g n (h++[o]):=by
 intro b hb
 have:(h++[o])[b]?=h[b]?:=List.getElem?_append_left (by omega)
 rw [this]
 exact ho b hb
theorem Grow.app (base:Nat) (h:Heap) (o:Obj):Grow base h (h++[o]):=⟨by simp,fun _ _ h2 ho=>ho.app h2 o⟩
theorem x3g.setBox {n b:Nat} {t:TypeId} {h:Heap} {cs:List V} (ho:x3g n h) (hc:b<n→x0B n cs=true):x3g n (h.set b (.box t cs)):=by
 intro c hc'
 by_cases e:c=b
 ·subst e
  rcases Nat.lt_or_ge c h.length with hl | hl
  ·rw [List.getElem?_set_self hl]
   refine ⟨fun _ cs' he=>?_,fun _ _ _ _ he=>by simp at he,fun _ he=>by simp at he⟩
   simp at he
   obtain ⟨_,rfl⟩:=he
   exact hc hc'
  ·rw [List.getElem?_eq_none (by simpa using hl)]
   exact ⟨fun _ _ he=>by simp at he,fun _ _ _ _ he=>by simp at he,fun _ he=>by simp at he⟩
 ·rw [List.getElem?_set_ne (by omega)]
  exact ho c hc'
theorem x3g.setRow {n b sz e:Nat} {t:TypeId} {h:Heap} {rows:List (List V)} (ho:x3g n h) (hc:b<n→∀ r∈rows,x0B n r=true):x3g n (h.set b (.row t sz e rows)):=by
 intro c hc'
 by_cases ec:c=b
 ·subst ec
  rcases Nat.lt_or_ge c h.length with hl | hl
  ·rw [List.getElem?_set_self hl]
   refine ⟨fun _ cs' he=>by simp at he,fun _ _ _ rows' he=>?_,fun _ he=>by simp at he⟩
   simp at he
   obtain ⟨_,_,_,rfl⟩:=he
   exact hc hc'
  ·rw [List.getElem?_eq_none (by simpa using hl)]
   exact ⟨fun _ _ he=>by simp at he,fun _ _ _ _ he=>by simp at he,fun _ he=>by simp at he⟩
 ·rw [List.getElem?_set_ne (by omega)]
  exact ho c hc'
theorem x3g.setMap {n b:Nat} {h:Heap} {es:List (Value×V)} (ho:x3g n h) (hc:b<n→∀ e∈es,x0n n e.2=true):x3g n (h.set b (.mmap es)):=by
 intro c hc'
 by_cases ec:c=b
 ·subst ec
  rcases Nat.lt_or_ge c h.length with hl | hl
  ·rw [List.getElem?_set_self hl]
   refine ⟨fun _ cs' he=>by simp at he,fun _ _ _ rows' he=>by simp at he,fun es' he=>?_⟩
   simp at he
   subst he
   exact hc hc'
  ·rw [List.getElem?_eq_none (by simpa using hl)]
   exact ⟨fun _ _ he=>by simp at he,fun _ _ _ _ he=>by simp at he,fun _ he=>by simp at he⟩
 ·rw [List.getElem?_set_ne (by omega)]
  exact ho c hc'
theorem x3h {base b n:Nat} {cs:List V} (h:x0H base b cs=true) (hb:b<n) (hn:n≤base):x0B n cs=true:=by
 unfold x0H at h
 simp only [Bool.or_eq_true,decide_eq_true_eq] at h
 rcases h with h | h
 ·omega
 ·exact x3J (by omega) h
theorem x6H {n:Nat} {a b:List V} (h:x0B n a=true) (k:x0B n b=true):x0B n (a++b)=true:=by
 rw [x32] at *
 intro v hv
 rcases List.mem_append.1 hv with hv | hv
 ·exact h v hv
 ·exact k v hv
theorem x6O {n:Nat} {a b:List V} (h:x0B n a=true) (hs:∀ v∈b,v∈a):x0B n b=true:=by
 rw [x32] at *
 exact fun v hv=>h v (hs v hv)
theorem x6P {n off:Nat} {cs new:List V} (h:x0B n cs=true) (k:x0B n new=true):x0B n (x0E cs off new)=true:=by
 unfold x0E
 exact x6H (x6H (x6O h fun _ hv=>List.mem_of_mem_take hv) k) (x6O h fun _ hv=>List.mem_of_mem_drop hv)
theorem xby {base n:Nat} {h h':Heap} {a x:V} (hs:x0y base h n a x=some h'):Grow base h h':=by
 unfold x0y at hs
 split at hs
 case isFalse=>simp at hs
 split at hs
 ·rename_i b off
  split at hs
  ·rename_i cs eq
   split at hs
   ·rename_i hc
    injection hs with hs
    subst hs
    exact ⟨by simp,fun m h1 h2 ho=>ho.setBox fun hb=>x6P ((ho b hb).1 _ cs eq) (x3h hc.2 hb h1)⟩
   ·simp at hs
  ·simp at hs
 ·rename_i b e i off
  split at hs
  ·rename_i ty sz e' rows eq
   split at hs
   ·split at hs
    ·rename_i cs hi
     split at hs
     ·rename_i hc
      injection hs with hs
      subst hs
      refine ⟨by simp,fun m h1 h2 ho=>ho.setRow fun hb r hr=>?_⟩
      rcases List.mem_or_eq_of_mem_set hr with hr | rfl
      ·exact (ho b hb).2.1 _ _ _ rows eq r hr
      ·exact x6P ((ho b hb).2.1 _ _ _ rows eq cs (List.mem_of_getElem? hi)) (x3h hc.2 hb h1)
     ·split at hs
      ·rename_i hc
       injection hs with hs
       subst hs
       refine ⟨by simp,fun m h1 h2 ho=>ho.setRow fun hb r hr=>?_⟩
       refine x6O (x6P (cs:=rows.flatten) ?_ (x3h hc.2.2 hb h1)) (xgx hr)
       rw [x32]
       intro v hv
       obtain ⟨r',hr',hv'⟩:=List.mem_flatten.1 hv
       have:=(ho b hb).2.1 _ _ _ rows eq r' hr'
       rw [x32] at this
       exact this v hv'
      ·simp at hs
    ·simp at hs
   ·simp at hs
  ·simp at hs
 ·simp at hs
theorem xhG {α:Type} {c:Prop} [Decidable c] {a b t:List α} {r:α} (h:r∈(if c then a++b else a++b++t)):r∈a++b++t:=by
 split at h
 ·exact List.mem_append_left _ h
 ·exact h
theorem xbs {base sz:Nat} {t:TypeId} {h h':Heap} {s v:V} {new:List (List V)} (hs:x1D base h t sz s new=some (v,h')):Grow base h h':=by
 unfold x1D at hs
 split at hs
 ·simp only [Option.map_eq_some_iff,Prod.mk.injEq] at hs
  obtain ⟨_,_,_,rfl⟩:=hs
  exact Grow.refl _ _
 ·split at hs
  ·split at hs
   ·injection hs with hs
    simp only [Prod.mk.injEq] at hs
    rw [← hs.2]
    exact Grow.app _ _ _
   ·simp at hs
  ·split at hs
   ·injection hs with hs
    simp only [Prod.mk.injEq] at hs
    rw [← hs.2]
    exact Grow.app _ _ _
   ·simp at hs
  ·rename_i b ep len
   split at hs
   ·rename_i ty z e' rows eq
    split at hs
    ·rename_i hc
     injection hs with hs
     simp only [Prod.mk.injEq] at hs
     rw [← hs.2]
     refine ⟨by simp,fun m h1 h2 ho=>ho.setRow fun hb r hr=>?_⟩
     replace hr:=xhG hr
     rcases List.mem_append.1 hr with hr | hr
     ·rcases List.mem_append.1 hr with hr | hr
      ·exact (ho b hb).2.1 _ _ _ rows eq r (List.mem_of_mem_take hr)
      ·exact x3h (List.all_eq_true.1 hc.2.2.2.2.2.2 r hr) hb h1
     ·exact (ho b hb).2.1 _ _ _ rows eq r (List.mem_of_mem_drop hr)
    ·simp at hs
   ·simp at hs
  ·simp at hs
theorem x9D {base sz:Nat} {h h':Heap} {d:V} {k:Nat} {new:List (List V)} (hs:x9c base h sz d new=some (k,h')):Grow base h h':=by
 unfold x9c at hs
 split at hs
 ·simp at hs
 ·rename_i m hm
  split at hs
  ·simp only [Option.some.injEq,Prod.mk.injEq] at hs
   rw [← hs.2]
   exact Grow.refl _ _
  ·rename_i hne
   split at hs
   ·rename_i b e off len
    split at hs
    ·rename_i ty z e' rows eq
     split at hs
     ·rename_i hc
      simp only [Option.some.injEq,Prod.mk.injEq] at hs
      rw [← hs.2]
      refine ⟨by simp,fun m h1 h2 ho=>ho.setRow fun hb r hr=>?_⟩
      rcases List.mem_append.1 hr with hr | hr
      ·rcases List.mem_append.1 hr with hr | hr
       ·exact (ho b hb).2.1 _ _ _ rows eq r (List.mem_of_mem_take hr)
       ·exact x3h (List.all_eq_true.1 hc.2.2.2.2 r hr) hb h1
      ·exact (ho b hb).2.1 _ _ _ rows eq r (List.mem_of_mem_drop hr)
     ·simp at hs
    ·simp at hs
   ·simp at hs
theorem x6M {base sz lo:Nat} {hi mx:Option Nat} {h h':Heap} {x v:V} (hs:zg h sz x lo hi mx=some (v,h')):Grow base h h':=by
 unfold zg at hs
 split at hs
 ·split at hs
  ·injection hs with hs
   simp only [Prod.mk.injEq] at hs
   rw [← hs.2]
   exact Grow.refl _ _
  ·simp at hs
 ·rename_i b ep off len
  split at hs
  ·split at hs
   ·rename_i ty z e' rs eq
    split at hs
    ·split at hs
     ·injection hs with hs
      simp only [Prod.mk.injEq] at hs
      rw [← hs.2]
      exact Grow.refl _ _
     ·split at hs
      ·split at hs
       ·injection hs with hs
        simp only [Prod.mk.injEq] at hs
        rw [← hs.2]
        exact Grow.refl _ _
       injection hs with hs
       simp only [Prod.mk.injEq] at hs
       rw [← hs.2]
       exact ⟨by simp,fun m h1 h2 ho=>ho.setRow fun hb r hr=>(ho b hb).2.1 _ _ _ rs eq r (List.mem_of_mem_take hr)⟩
      ·split at hs
       ·injection hs with hs
        simp only [Prod.mk.injEq] at hs
        rw [← hs.2]
        exact Grow.refl _ _
       ·simp at hs
    ·simp at hs
   ·simp at hs
  ·simp only [Option.map_eq_some_iff,Prod.mk.injEq] at hs
   obtain ⟨_,_,_,hs⟩:=hs
   rw [← hs]
   exact Grow.refl _ _
 ·split at hs
  ·injection hs with hs
   simp only [Prod.mk.injEq] at hs
   rw [← hs.2]
   exact Grow.refl _ _
  ·simp at hs
 ·simp at hs
theorem x3g.setDead {n b:Nat} {h:Heap} (ho:x3g n h):x3g n (h.set b .dead):=by
 intro c hc'
 by_cases ec:c=b
 ·subst ec
  rcases Nat.lt_or_ge c h.length with hl | hl
  ·rw [List.getElem?_set_self hl]
   exact ⟨fun _ _ he=>by simp at he,fun _ _ _ _ he=>by simp at he,fun _ he=>by simp at he⟩
  ·rw [List.getElem?_eq_none (by simpa using hl)]
   exact ⟨fun _ _ he=>by simp at he,fun _ _ _ _ he=>by simp at he,fun _ he=>by simp at he⟩
 ·rw [List.getElem?_set_ne (by omega)]
  exact ho c hc'
theorem x9T {base k:Nat} {u:TypeId} {h h':Heap} {x v:V} (hs:x7a h u k x=some (v,h')):Grow base h h':=by
 unfold x7a at hs
 split at hs
 ·split at hs
  ·injection hs with hs
   simp only [Prod.mk.injEq] at hs
   rw [← hs.2]
   exact Grow.refl _ _
  ·simp at hs
 ·split at hs
  ·split at hs
   ·simp only [Option.map_eq_some_iff,Prod.mk.injEq] at hs
    obtain ⟨_,_,_,rfl⟩:=hs
    exact ⟨by simp,fun m h1 h2 ho=>ho.setDead⟩
   ·simp at hs
  ·simp at hs
 ·simp at hs
def x3l (base:Nat) (h:Heap) (x:Option (V×Heap)):Prop:=∀ v h',x=some (v,h')→Grow base h h'
theorem x3l.none {base:Nat} {h:Heap}:x3l base h none:=fun _ _ e=>by simp at e
theorem x3l.same {base:Nat} {h:Heap} {v:V}:x3l base h (some (v,h)):=fun _ _ e=>by
 simp only [Option.some.injEq,Prod.mk.injEq] at e
 rw [← e.2]
 exact Grow.refl _ _
theorem x3l.app {base:Nat} {h:Heap} {v:V} {o:Obj}:x3l base h (some (v,h++[o])):=fun _ _ e=>by
 simp only [Option.some.injEq,Prod.mk.injEq] at e
 rw [← e.2]
 exact Grow.app _ _ _
theorem x3l.map {α:Type} {base:Nat} {h:Heap} {x:Option α} {f:α→V}:x3l base h (x.map fun a=>(f a,h)):=fun _ _ e=>by
 simp only [Option.map_eq_some_iff,Prod.mk.injEq] at e
 obtain ⟨_,_,_,rfl⟩:=e
 exact Grow.refl _ _
theorem x3l.bind {α:Type} {base:Nat} {h:Heap} {x:Option α} {f:α→Option (V×Heap)} (hf:∀ a,x3l base h (f a)):x3l base h (x.bind f):=fun _ _ e=>by
 simp only [Option.bind_eq_some_iff] at e
 obtain ⟨a,_,e⟩:=e
 exact hf a _ _ e
theorem x3l.ite {base:Nat} {h:Heap} {c:Prop} [Decidable c] {x y:Option (V×Heap)} (hx:x3l base h x) (hy:x3l base h y):x3l base h (if c then x else y):=by
 split
 ·exact hx
 ·exact hy
theorem xas {base:Nat} {h h':Heap} {kd:LK} {m k x:V} (hs:x9Q base h kd m k x=some h'):Grow base h h':=by
 unfold x9Q at hs
 simp only [Option.bind_eq_some_iff] at hs
 obtain ⟨key,_,hs⟩:=hs
 split at hs
 ·rename_i b
  split at hs
  ·rename_i es eq
   split at hs
   ·rename_i hc
    simp only [Option.map_eq_some_iff] at hs
    obtain ⟨r,_,hs⟩:=hs
    have hx:∀ n,b<n→n≤base→x0n n x=true:=fun n h1 h2=>by
     have:=x3h hc.2 h1 h2
     simpa [x0B] using this
    split at hs
    ·subst hs
     refine ⟨by simp,fun n h1 h2 ho=>ho.setMap fun hb e he=>?_⟩
     rcases List.mem_or_eq_of_mem_set he with he | rfl
     ·exact (ho b hb).2.2 es eq e he
     ·exact hx n hb h1
    ·subst hs
     refine ⟨by simp,fun n h1 h2 ho=>ho.setMap fun hb e he=>?_⟩
     rcases List.mem_append.1 he with he | he
     ·exact (ho b hb).2.2 es eq e he
     ·simp at he
      subst he
      exact hx n hb h1
   ·simp at hs
  ·simp at hs
 ·simp at hs
theorem xf3 {base:Nat} {en:Env} {h h':Heap} {op:AOp} {v:V} (hs:step base en h op=some (v,h')):Grow base h h':=by
 refine (?_:x3l base h (step base en h op)) v h' hs
 clear hs v h'
 cases op<;>simp only [step]
 case store n a x =>
  intro v h' e
  simp only [Option.map_eq_some_iff,Prod.mk.injEq] at e
  obtain ⟨h2,h1,_,rfl⟩:=e
  exact xby h1
 case strData u x n =>
  split
  ·refine x3l.ite ?_ x3l.none
   exact fun _ _ e=>x9T e
  ·exact x3l.none
 case append t sz s x=>exact x3l.bind fun new=>fun _ _ e=>xbs e
 case mapUpdate kd m k x =>
  intro v h' e
  simp only [Option.map_eq_some_iff,Prod.mk.injEq] at e
  obtain ⟨h2,h1,_,rfl⟩:=e
  exact xas h1
 case copy sz d x =>
  refine x3l.bind fun new=>fun _ _ e=>?_
  simp only [Option.map_eq_some_iff,Prod.mk.injEq] at e
  obtain ⟨⟨k,h2⟩,h1,_,rfl⟩:=e
  exact x9D h1
 case clear sz zs x =>
  refine x3l.bind fun n=>fun _ _ e=>?_
  simp only [Option.map_eq_some_iff,Prod.mk.injEq] at e
  obtain ⟨⟨k,h2⟩,h1,_,rfl⟩:=e
  exact x9D h1
 case slice sz x lo hi mx =>
  refine x3l.bind fun l=>?_
  split
  ·exact fun _ _ e=>x6M e
  ·exact x3l.bind fun _=>fun _ _ e=>x6M e
  ·exact x3l.bind fun _=>x3l.bind fun _=>fun _ _ e=>x6M e
  ·exact x3l.none
 all_goals repeat' first
  | exact x3l.none
  | exact x3l.same
  | exact x3l.app
  | exact x3l.map
  | refine x3l.bind fun _=>?_
  | refine x3l.ite ?_ ?_
  | split
end
section
open Go.RowKit (Below)
section
variable {P:Program} {gl:Nat→Option (List V)} {call:x3T} {base n nt:Nat}
theorem xgo (hc:CallOk P gl call) {en:Env} {h h':Heap} {op:AOp} {v:V} (hb:base≤h.length) (hs:evOp call base en h op=some (v,h')):Grow base h h':=by
 unfold evOp at hs
 split at hs
 ·split at hs
  ·exact hc.grow _ _ _ _ _ _ hs hb
  ·simp at hs
 ·split at hs
  ·split at hs
   ·rename_i v' h'' e1
    split at hs
    ·injection hs with hs
     simp only [Prod.mk.injEq] at hs
     obtain ⟨rfl,rfl⟩:=hs
     exact hc.grow _ _ _ _ _ _ e1 hb
    ·simp at hs
   ·simp at hs
  ·simp at hs
 ·exact xf3 hs
theorem x8T (hc:CallOk P gl call) {en:Env} {h h':Heap} {o:AOper} {v:V} (hb:base≤h.length) (hs:x1x call base en h o=some (v,h')):Grow base h h':=xgo hc hb (x1L hs).2
theorem x6u (hc:CallOk P gl call):∀ {ops:List AOper} {en en':Env} {h h':Heap},base≤h.length→x1i call base ops en h=some (en',h')→Grow base h h'
 | [],en,en',h,h',_,hs=>by
  simp only [x1i,Option.some.injEq,Prod.mk.injEq] at hs
  rw [← hs.2]
  exact Grow.refl _ _
 | o::ops,en,en',h,h',hb,hs=>by
  have key:∀ {v h1},x1x call base en h o=some (v,h1)→x1i call base ops (en.put o.dst v) h1=some (en',h')→Grow base h h':=by
   intro v h1 e1 e2
   have g1:=x8T hc hb e1
   exact g1.trans (x6u hc (Nat.le_trans hb g1.1) e2)
  unfold x1i at hs
  split at hs
  ·split at hs
   ·rename_i v h1 e1
    exact key e1 hs
   ·simp at hs
  ·split at hs
   ·split at hs
    ·rename_i v h1 e1
     exact key e1 hs
    ·simp at hs
   ·exact x6u hc hb hs
   ·simp at hs
theorem xb2 {f:Env→Heap→Option (Ex×Env×Heap)} (hf:∀ en h ex en' h',base≤h.length→f en h=some (ex,en',h')→Grow base h h') :
  ∀ (k:Nat) {en en':Env} {h h':Heap} {ex:Ex},base≤h.length→iter f k en h=some (ex,en',h')→Grow base h h'
 | 0,_,_,_,_,_,_,hs=>by simp [iter] at hs
 | k+1,en,en',h,h',ex,hb,hs=>by
  unfold iter at hs
  split at hs
  ·rename_i en1 h1 e1
   have g1:=hf _ _ _ _ _ hb e1
   exact g1.trans (xb2 hf k (Nat.le_trans hb g1.1) hs)
  ·exact hf _ _ _ _ _ hb hs
theorem x3k (hc:CallOk P gl call):∀ {c:ACode} {en en':Env} {h h':Heap} {ex:Ex},base≤h.length→evC call base n c en h=some (ex,en',h')→Grow base h h'
 | .skip,_,_,_,_,_,_,hs=>by simp only [evC,Option.some.injEq,Prod.mk.injEq] at hs;rw [← hs.2.2];exact Grow.refl _ _
 | .ret,_,_,_,_,_,_,hs=>by simp only [evC,Option.some.injEq,Prod.mk.injEq] at hs;rw [← hs.2.2];exact Grow.refl _ _
 | .exit id,_,_,_,_,_,_,hs=>by simp only [evC,Option.some.injEq,Prod.mk.injEq] at hs;rw [← hs.2.2];exact Grow.refl _ _
 | .fail,_,_,_,_,_,_,hs=>by simp [evC] at hs
 | .seq a b,en,en',h,h',ex,hb,hs=>by
  simp only [evC] at hs
  split at hs
  ·rename_i en1 h1 e1
   have g1:=x3k hc hb e1
   exact g1.trans (x3k hc (Nat.le_trans hb g1.1) hs)
  ·exact x3k hc hb hs
 | .cond c a b,en,en',h,h',ex,hb,hs=>by
  simp only [evC] at hs
  split at hs
  ·split at hs
   ·exact x3k hc hb hs
   ·exact x3k hc hb hs
  ·simp at hs
 | .region ops,en,en',h,h',ex,hb,hs=>by
  simp only [evC] at hs
  split at hs
  ·rename_i en1 h1 e1
   simp only [Option.some.injEq,Prod.mk.injEq] at hs
   rw [← hs.2.2]
   exact x6u hc hb e1
  ·simp at hs
 | .regionM ops rest ps,en,en',h,h',ex,hb,hs=>by
  simp only [evC] at hs
  split at hs
  ·rename_i s0 e0
   split at hs
   ·simp only [Option.some.injEq,Prod.mk.injEq] at hs
    rw [← hs.2.2]
    exact x6u hc hb (en':=s0.1) e0
   ·simp at hs
  ·simp at hs
 | .block id c,en,en',h,h',ex,hb,hs=>by
  simp only [evC] at hs
  split at hs
  ·rename_i i en1 h1 e1
   have g1:=x3k hc hb e1
   split at hs
   ·simp only [Option.some.injEq,Prod.mk.injEq] at hs
    rw [← hs.2.2]
    exact g1
   ·simp only [Option.some.injEq,Prod.mk.injEq] at hs
    rw [← hs.2.2]
    exact g1
  ·exact x3k hc hb hs
 | .loop c,en,en',h,h',ex,hb,hs=>by
  simp only [evC] at hs
  exact xb2 (fun _ _ _ _ _ hb e=>x3k hc hb e) n hb hs
def AOp.isCall:AOp→Bool
 | .call _ _=>true
 | .callK _ _ _=>true
 | _=>false
def NoC (x:Option AOp):Prop:=∀ y,x=some y→y.isCall=false
theorem NoC.none:NoC none:=fun _ e=>by simp at e
theorem NoC.some {y:AOp} (h:y.isCall=false):NoC (some y):=fun _ e=>by injection e with e;rw [← e];exact h
theorem NoC.map {α:Type} {x:Option α} {f:α→AOp} (h:∀ a,(f a).isCall=false):NoC (x.map f):=fun _ e=>by
 simp only [Option.map_eq_some_iff] at e
 obtain ⟨a,_,rfl⟩:=e
 exact h a
theorem NoC.bind {α:Type} {x:Option α} {f:α→Option AOp} (h:∀ a,NoC (f a)):NoC (x.bind f):=fun y e=>by
 simp only [Option.bind_eq_some_iff] at e
 obtain ⟨a,_,e⟩:=e
 exact h a y e
theorem NoC.ite {c:Prop} [Decidable c] {x y:Option AOp} (hx:NoC x) (hy:NoC y):NoC (if c then x else y):=by
 split
 ·exact hx
 ·exact hy
theorem xcj {op:Op} {f:Opd} {args:List Opd} (h:x2Q P gl op=some (.call f args)) :
  ∃ fo as ts,op=.call { callee:=.value fo,args:=as,argTypes:=ts }∧(∃ f0,opd gl fo=some f0∧f=x9u gl f0)∧opds gl as.toList=some args:=by
 have hno:∀ x:Option AOp,NoC x→x≠some (.call f args):=fun x hx e=>by have:=hx _ e;simp [AOp.isCall] at this
 cases op
 case call c =>
  obtain ⟨callee,as,ts⟩:=c
  simp only [x2Q,x7o] at h
  split at h
  ·simp only [Option.bind_eq_some_iff,Option.map_eq_some_iff] at h
   obtain ⟨f',hf,xs,hx,he⟩:=h
   injection he with e1 e2
   subst e1;subst e2
   exact ⟨_,_,_,rfl,⟨f',hf,rfl⟩,hx⟩
  ·exfalso
   refine hno _ ?_ h
   unfold x4X
   repeat' first
    | exact NoC.none
    | exact NoC.some rfl
    | exact NoC.map fun _=>rfl
    | refine NoC.bind fun _=>?_
    | refine NoC.ite ?_ ?_
    | split
  ·simp at h
 case makeMap t r =>
  exfalso
  cases r with
  | none=>exact hno _ (NoC.some (y:=.makeMap) rfl) h
  | some r=>simp [x2Q] at h
 all_goals
  exfalso
  refine hno _ ?_ h
  simp only [x2Q,x7G,x6v]
  repeat' first
   | exact NoC.none
   | exact NoC.some rfl
   | exact NoC.map fun _=>rfl
   | refine NoC.bind fun _=>?_
   | refine NoC.ite ?_ ?_
   | split
theorem x9H {op:Op} {f:Opd} {args:List Opd} {ts:List Nat} (h:x2Q P gl op=some (.callK f args ts)):False:=by
 have hno:∀ x:Option AOp,NoC x→x≠some (.callK f args ts):=fun x hx e=>by have:=hx _ e;simp [AOp.isCall] at this
 cases op
 case call c =>
  obtain ⟨callee,as,us⟩:=c
  simp only [x2Q,x7o] at h
  split at h
  ·simp only [Option.bind_eq_some_iff,Option.map_eq_some_iff] at h
   obtain ⟨f',hf,xs,hx,he⟩:=h
   simp at he
  ·exfalso
   refine hno _ ?_ h
   unfold x4X
   repeat' first
    | exact NoC.none
    | exact NoC.some rfl
    | exact NoC.map fun _=>rfl
    | refine NoC.bind fun _=>?_
    | refine NoC.ite ?_ ?_
    | split
  ·simp at h
 case makeMap t r =>
  exfalso
  cases r with
  | none=>exact hno _ (NoC.some (y:=.makeMap) rfl) h
  | some r=>simp [x2Q] at h
 all_goals
  exfalso
  refine hno _ ?_ h
  simp only [x2Q,x7G,x6v]
  repeat' first
   | exact NoC.none
   | exact NoC.some rfl
   | exact NoC.map fun _=>rfl
   | refine NoC.bind fun _=>?_
   | refine NoC.ite ?_ ?_
   | split
theorem xeg (f:Opd) (en:Env):(x9u gl f).get en=f.get en∨(x9u gl f).get en=.undef:=by
 unfold x9u
 split
 ·rename_i t
  split
  ·generalize (List.range 1000).filter _=qs
   simp only [Opd.get]
   split
   ·rename_i k a c e
    split
    ·exact .inl e.symm
    ·exact .inr rfl
   ·exact .inr rfl
  ·exact .inl rfl
 ·exact .inl rfl
theorem xef {G:Tie} {en:Env} {f:Opd} {r:Value} (h:RepV G (f.get en) r):RepV G ((x9u gl f).get en) r:=by
 rcases xeg (gl:=gl) f en with e | e
 ·rw [e];exact h
 ·rw [e];simp [RepV]
theorem xjG (hc:CallOk P gl call) {G:Tie} {en:Env} {h h':Heap} {a:Act} {w:World} {o:Oper} {ao:AOper} {all:List Oper} {v:V} {Q:Exit→Act→World→Prop} {next:Act→World→Prop}
  (hgl:x0V G gl) (he:x0w G en a.tmps) (R:Rel G h w) (hb:base≤h.length) (hco:x2Z P gl nt all o=some ao) (hs:x1x call base en h ao=some (v,h'))
  (hn:∀ r w' G',Reach G w h' w' G'→RepV G' v r→next (a.put o.dst r) w'):o.wp P a w next Q:=by
 unfold x2Z at hco
 have hop:ao.op=x5O P gl o.op:=by
  simp only at hco
  split at hco
  ·split at hco
   ·injection hco with hco;rw [← hco]
   ·simp only [Option.map_eq_some_iff] at hco
    obtain ⟨d,_,rfl⟩:=hco
    rfl
  ·simp at hco
 unfold Oper.wp
 have quiet:step base en h ao.op=some (v,h')→o.upon P a next Q ((execOp a.eval o).run P w):=by
  intro hst
  rw [hop] at hst
  unfold x5O at hst
  cases hcp:x2Q P gl o.op with
  | none=>rw [hcp] at hst;simp [step] at hst
  | some op =>
   rw [hcp] at hst
   obtain ⟨r,w',G',hrun,x,R',hv,hbl⟩:=xhf hgl he R hcp hst
   rcases hrun with hrun | ⟨hrun,rfl⟩
   ·rw [hrun]
    exact hn r w' G' ⟨x,R',hbl⟩ hv
   ·rw [hrun]
    exact hn undef w' G' ⟨x,R',hbl⟩ hv
 have hs:=(x1L hs).2
 generalize hgo:ao.op=gop at hs
 unfold evOp at hs
 split at hs
 ·rename_i f args
  have eop:=hgo
  rw [hop] at eop
  split at hs
  ·rename_i k vs et
   have hcp:x2Q P gl o.op=some (.call f args):=by
    unfold x5O at eop
    cases hcp:x2Q P gl o.op with
    | none=>rw [hcp] at eop;simp at eop
    | some op=>rw [hcp] at eop;simp only [Option.getD_some] at eop;rw [eop]
   obtain ⟨fo,as,ts,ho,⟨f0,hf,hf0⟩,hargs⟩:=xcj hcp
   have hfv:RepV G (f.get en) (a.eval fo):=by rw [hf0];exact xef (x0l hgl he hf)
   have hav:=x7c hgl he hargs
   unfold zr at et
   split at et
   ·rename_i g fa fc ef
    injection et with et
    simp only [Prod.mk.injEq] at et
    obtain ⟨rfl,rfl⟩:=et
    rw [ef] at hfv
    simp only [RepV] at hfv
    obtain ⟨ra,rc,hr,h1,h2⟩:=hfv
    have hvals:RepL G (fa++zh en args++fc) ((ra++as.map a.eval)++rc).toList:=by
     simp only [Array.toList_append]
     refine (h1.append ?_).append h2
     simpa using hav
    have hcall:=hc.runs _ _ _ _ _ _ hs hb G w _ hgl R hvals
    have hex:execOp a.eval o=callFunc g ((ra++as.map a.eval)++rc):=by
     simp only [execOp,ho,resolve,hr,Deferred.ofValue]
     rfl
    rw [hex]
    unfold x9M at hcall
    split at hcall
    ·rename_i v' w' e1
     rw [e1]
     obtain ⟨G',hreach,hv⟩:=hcall
     exact hn _ _ _ hreach hv
    ·rename_i g' as' w' e1
     rw [e1]
     rw [Oper.upon_enter]
     refine hcall.mono ?_
     intro e w'' hq
     cases e with
     | returned rv =>
      obtain ⟨G',hreach,hv⟩:=hq
      exact hn _ _ _ hreach hv
     | panicked chain=>exact hq.elim
     | outgrown=>exact hq.elim
    ·rename_i row as' w' e1
     rw [e1]
     rw [Oper.upon_row]
     refine hcall.mono ?_
     intro rv w'' hq
     obtain ⟨G',hreach,hv⟩:=hq
     exact hn _ _ _ hreach hv
    ·exact hcall.elim
   ·simp at et
  ·simp at hs
 ·rename_i f args ts
  exfalso
  rw [hop] at hgo
  unfold x5O at hgo
  cases hcp:x2Q P gl o.op with
  | none=>rw [hcp] at hgo;simp at hgo
  | some op=>rw [hcp] at hgo;simp only [Option.getD_some] at hgo;subst hgo;exact x9H hcp
 ·exact quiet (by rw [hgo];exact hs)
theorem x4s {all:List Oper} {o:Oper} {ao:AOper} (h:x2Z P gl nt all o=some ao) :
  ao.off=[]∧ao.dst=o.dst∧(∀ d,o.dst=some d→d<nt)∧((o.guard=none∧ao.guard=none)∨∃ j want d,o.guard=some (j,want)∧ao.guard=some (d,want)∧(all[j]?).bind (·.dst)=some d):=by
 unfold x2Z at h
 simp only at h
 split at h
 ·rename_i hd
  have hd':∀ d,o.dst=some d→d<nt:=by
   intro d hdd
   rw [hdd] at hd
   simpa using hd
  split at h
  ·rename_i hg
   injection h with h
   subst h
   exact ⟨rfl,rfl,hd',.inl ⟨hg,rfl⟩⟩
  ·rename_i j want hg
   simp only [Option.map_eq_some_iff] at h
   obtain ⟨d,hdd,rfl⟩:=h
   exact ⟨rfl,rfl,hd',.inr ⟨j,want,d,hg,rfl,hdd⟩⟩
 ·simp at h
theorem xbH {G:Tie} {en:Env} {a:Act} (he:x0w G en a.tmps) {dst:Option Nat} (hd:∀ d,dst=some d→d<nt) (hsz:nt≤a.tmps.size) {v:V} {r:Value} (hv:RepV G v r) :
  x0w G (en.put dst v) (a.put dst r).tmps∧(a.put dst r).tmps.size=a.tmps.size∧(a.put dst r).defers=a.defers:=by
 cases dst with
 | none=>exact ⟨he,rfl,rfl⟩
 | some d=>exact ⟨he.put (Nat.lt_of_lt_of_le (hd d rfl) hsz) hv,by simp [Act.put],rfl⟩
def x6L (P:Program) (gl:Nat→Option (List V)) (nt:Nat) (all:List Oper) (o:Oper) (ao:AOper):Prop :=
 ∃ b,x2Z P gl nt all o=some b∧x1Q ao b
theorem x7P (hc:CallOk P gl call) {ops:Array Oper} {Q:Exit→Act→World→Prop} {K:Act→World→Prop} {i:Nat} {o:Oper} {ao:AOper} {G:Tie} {en:Env} {h h':Heap} {a:Act} {w:World} {v:V}
  (ho:ops[i]?=some o) (hser:x6L P gl nt ops.toList o ao) (hgl:x0V G gl) (he:x0w G en a.tmps) (R:Rel G h w) (hb:base≤h.length) (hsz:nt≤a.tmps.size) (hs:x0M call base ao en h=some (v,h'))
  (hK:∀ a' w' G',Reach G w h' w' G'→base≤h'.length→x0w G' (en.put ao.dst v) a'.tmps→a'.tmps.size=a.tmps.size→a'.defers=a.defers→K a' w'):wpOp P ops Q i K a w:=by
 obtain ⟨b,hco,hab⟩:=hser
 have hs':x0M call base b en h=some (v,h'):=hab.val hs
 have hdst':ao.dst=b.dst:=hab.1
 rw [hdst'] at hK
 clear hs hab hdst'
 obtain ⟨_,hdst,hdlt,hguard⟩:=x4s hco
 rw [hdst] at hK
 unfold wpOp
 simp only [ho]
 have key:x1x call base en h b=some (v,h')→o.wp P a w K Q:=by
  intro e1
  refine xjG hc hgl he R hb hco e1 fun r w' G' hreach hv=>?_
  obtain ⟨p1,p2,p3⟩:=xbH (he.ext hreach.ext) hdlt hsz hv
  exact hK _ _ G' hreach (Nat.le_trans hb (x8T hc hb e1).1) p1 p2 p3
 unfold x0M at hs'
 split at hs'
 ·rename_i hg
  have hw:Region.wanted o (yielded ops a.tmps)=true:=by
   rcases hguard with ⟨h1,_⟩ | ⟨j,want,d,_,h2,_⟩
   ·unfold Region.wanted;rw [h1]
   ·rw [h2] at hg;simp at hg
  rw [if_pos hw]
  exact .inl (key hs')
 ·rename_i g want hg
  rcases hguard with ⟨_,h2⟩ | ⟨j,want',d,h1,h2,hd⟩
  ·rw [h2] at hg;simp at hg
  ·rw [h2] at hg
   injection hg with hg
   simp only [Prod.mk.injEq] at hg
   obtain ⟨rfl,rfl⟩:=hg
   cases hgo:gOk (en d) want' with
   | none=>rw [hgo] at hs';simp at hs'
   | some t =>
    rw [hgo] at hs'
    have hw:Region.wanted o (yielded ops a.tmps)=t:=by
     have hd':(ops[j]?).bind (·.dst)=some d:=by rw [← Array.getElem?_toList];exact hd
     have hrep:=he d
     unfold gOk at hgo
     split at hgo
     ·rename_i u hu
      rw [hu] at hrep
      have hrep:=hrep.sc_inv
      have hy:yielded ops a.tmps j=some u:=by
       unfold yielded
       rw [hd']
       simp only [Option.bind_some]
       have hlt:d<a.tmps.size:=by
        rcases Nat.lt_or_ge d a.tmps.size with hl | hl
        ·exact hl
        ·simp [Array.getD,show ¬ d<a.tmps.size by omega,undef] at hrep
       have:a.tmps[d]?=some (.bool u):=by
        rw [Array.getElem?_eq_getElem hlt]
        simpa [Array.getD,hlt] using hrep
       rw [this]
      unfold Region.wanted
      rw [h1]
      simp only [hy]
      injection hgo with hgo
     ·rename_i hu
      rw [hu] at hrep
      simp only [RepV,RepL] at hrep
      obtain ⟨rs,hr,hrs⟩:=hrep
      have hy:yielded ops a.tmps j=none:=by
       unfold yielded
       rw [hd']
       simp only [Option.bind_some]
       cases ht:a.tmps[d]? with
       | none=>rfl
       | some x =>
        have:a.tmps.getD d undef=x:=by simp [Array.getD_eq_getD_getElem?,ht]
        rw [this] at hr
        rw [hr]
      unfold Region.wanted
      rw [h1]
      simp only [hy]
      injection hgo with hgo
     ·simp at hgo
    rw [hw]
    cases t with
    | true =>
     rw [if_pos rfl]
     exact .inl (key hs')
    | false =>
     rw [if_neg (by simp)]
     simp only [Option.some.injEq,Prod.mk.injEq] at hs'
     obtain ⟨rfl,rfl⟩:=hs'
     obtain ⟨p1,p2,p3⟩:=xbH (a:=a) he hdlt hsz (v:=.tup []) (r:=undef) (by simp only [RepV];exact ⟨#[],rfl,by simp [RepL]⟩)
     exact hK _ _ G (Reach.refl R) hb p1 p2 p3
theorem xcP (hc:CallOk P gl call) {ops:Array Oper} {Q:Exit→Act→World→Prop}:∀ {l:List Nat} {aops:List AOper} {G:Tie} {en en':Env} {h h':Heap} {a:Act} {w:World},
  All2 (fun i ao=>∃ o,ops[i]?=some o∧x6L P gl nt ops.toList o ao) l aops →
  x0V G gl→x0w G en a.tmps→Rel G h w→base≤h.length→nt≤a.tmps.size→x1i call base aops en h=some (en',h') →
  (∀ a' w' G',Reach G w h' w' G'→x0w G' en' a'.tmps→a'.tmps.size=a.tmps.size→a'.defers=a.defers→Q .normal a' w')→wpOps P ops Q l a w
 | [],aops,G,en,en',h,h',a,w,hall,hgl,he,R,hb,hsz,hs,hQ=>by
  simp only [All2] at hall
  subst hall
  simp only [x1i,Option.some.injEq,Prod.mk.injEq] at hs
  obtain ⟨rfl,rfl⟩:=hs
  exact hQ a w G (Reach.refl R) he rfl rfl
 | i::l,aops,G,en,en',h,h',a,w,hall,hgl,he,R,hb,hsz,hs,hQ=>by
  simp only [All2] at hall
  obtain ⟨ao,aops,rfl,⟨o,ho,hser⟩,hall⟩:=hall
  rw [x0i,Option.bind_eq_some_iff] at hs
  obtain ⟨⟨v,h1⟩,e1,e2⟩:=hs
  rw [wpOps_cons]
  refine x7P hc ho hser hgl he R hb hsz e1 fun a' w' G' hreach hb' he' q1 q2=>?_
  refine xcP hc hall (hgl.ext hreach.ext) he' hreach.rel hb' (by omega) e2 fun a'' w'' G'' hreach' he'' r1 r2=>?_
  exact hQ a'' w'' G'' (hreach.trans hreach') he'' (r1.trans q1) (r2.trans q2)
theorem x3G {ops:Array Oper} {listed:Array Bool} (down:∀ (i:Nat) (o:Oper),ops[i]?=some o→listed.getD i false=true→∀ e∈o.after,Region.binds .any e=true→listed.getD e.on false=true) :
  ∀ (k i x:Nat) (o:Oper),ops[i]?=some o→(∀ e∈o.after,Region.binds .any e=true→listed.getD e.on false=true)→depB ops.toList k i x=true→listed.getD x false=true
 | 0,_,_,_,_,_,hd=>by simp [depB] at hd
 | k+1,i,x,o,ho,hl,hd=>by
  have ho':ops.toList[i]?=some o:=by rw [Array.getElem?_toList];exact ho
  simp only [depB,ho',List.any_eq_true,Bool.and_eq_true,Bool.or_eq_true,beq_iff_eq,Array.mem_toList_iff] at hd
  obtain ⟨e,hm,hb,he⟩:=hd
  rcases he with rfl | he
  ·exact hl e hm hb
  ·have hon:=hl e hm hb
   cases hoe:ops[e.on]? with
   | none =>
    have:ops.toList[e.on]?=none:=by rw [Array.getElem?_toList];exact hoe
    cases k with
    | zero=>simp [depB] at he
    | succ k=>simp [depB,this] at he
   | some oe=>exact x3G down k e.on x oe hoe (fun e' hm' hb'=>down e.on oe hoe hon e' hm' hb') he
theorem x1U {listed:Array Bool} {i:Nat} (h:listed.getD i true=false):i<listed.size:=by
 rcases Nat.lt_or_ge i listed.size with h' | h'
 ·exact h'
 ·simp [Array.getElem?_eq_none h'] at h
theorem x65:∀ {M:List Nat},M≠[]→∃ m∈M,∀ x∈M,m≤x
 | [],h=>absurd rfl h
 | [m],_=>⟨m,by simp,by simp⟩
 | m::n::M,_=>by
  obtain ⟨k,hk,hall⟩:=x65 (M:=n::M) (by simp)
  by_cases h:m≤k
  ·exact ⟨m,by simp,fun x hx=>by
    rcases List.mem_cons.1 hx with rfl | hx
    ·exact Nat.le_refl _
    ·exact Nat.le_trans h (hall x hx)⟩
  ·exact ⟨k,List.mem_cons_of_mem _ hk,fun x hx=>by
    rcases List.mem_cons.1 hx with rfl | hx
    ·omega
    ·exact hall x hx⟩
def xco (quiet:FuncId→Nat) (ops:List Oper) (f:Nat→AOper) (M:List Nat):Prop :=
 M.Pairwise fun x i=>depB ops ops.length i x=true∨x2R quiet (f x) (f i)=true
theorem xn0 {quiet:FuncId→Nat} (hq:x1w quiet call) (hc:CallOk P gl call) {ops:Array Oper} {Q:Exit→Act→World→Prop} {f:Nat→AOper}
  (hf:∀ (i:Nat) (o:Oper),ops[i]?=some o→x6L P gl nt ops.toList o (f i))
  (hback:∀ (i:Nat) (o:Oper),ops[i]?=some o→∀ e∈o.after,Region.binds .any e=true→e.on<i) :
  ∀ (fuel:Nat) (listed:Array Bool) (M:List Nat) {G:Tie} {en en':Env} {h h':Heap} {a:Act} {w:World},
   M.Nodup→xco quiet ops.toList f M→(∀ i,i∈M↔i<ops.size∧listed.getD i true=false)→listed.size=ops.size→M.length≤fuel →
   (∀ (i:Nat) (o:Oper),ops[i]?=some o→listed.getD i false=true→∀ e∈o.after,Region.binds .any e=true→listed.getD e.on false=true) →
   x0V G gl→x0w G en a.tmps→Rel G h w→base≤h.length→nt≤a.tmps.size→x1i call base (M.map f) en h=some (en',h') →
   (∀ a' w' G',Reach G w h' w' G'→x0w G' en' a'.tmps→a'.tmps.size=a.tmps.size→a'.defers=a.defers→Q .normal a' w')→wpAny P .any ops Q fuel listed a w:=by
 intro fuel
 have done:∀ (listed:Array Bool) (M:List Nat) {G:Tie} {en en':Env} {h h':Heap} {a:Act} {w:World},
   (∀ i,i∈M↔i<ops.size∧listed.getD i true=false)→listed.size=ops.size →
   x0w G en a.tmps→Rel G h w→x1i call base (M.map f) en h=some (en',h') →
   (∀ a' w' G',Reach G w h' w' G'→x0w G' en' a'.tmps→a'.tmps.size=a.tmps.size→a'.defers=a.defers→Q .normal a' w')→Region.ready .any ops listed=[]→Q .normal a w:=by
  intro listed M G en en' h h' a w hM hlen he R hs hQ hr
  by_cases hMn:M=[]
  ·subst hMn
   simp only [List.map_nil,x1i,Option.some.injEq,Prod.mk.injEq] at hs
   obtain ⟨rfl,rfl⟩:=hs
   exact hQ a w G (Reach.refl R) he rfl rfl
  ·exfalso
   obtain ⟨m,hmM,hleast⟩:=x65 hMn
   obtain ⟨hm,hml⟩:=(hM m).1 hmM
   have:m∈Region.ready .any ops listed:=by
    rw [mem_ready]
    refine ⟨hml,ops[m],Array.getElem?_eq_getElem hm,fun e he hb=>?_⟩
    have hlt:=hback m _ (Array.getElem?_eq_getElem hm) e he hb
    cases hv:listed.getD e.on false with
    | true=>rfl
    | false =>
     exfalso
     have hin:e.on∈M:=(hM e.on).2 ⟨by omega,by
      have:e.on<listed.size:=by omega
      simp [this] at hv ⊢
      exact hv⟩
     have:=hleast _ hin
     omega
   rw [hr] at this
   simp at this
 induction fuel with
 | zero =>
  intro listed M G en en' h h' a w hnd hp hM hlen hfuel down hgl he R hb hsz hs hQ
  have hMn:M=[]:=by simpa using hfuel
  have hr:Region.ready .any ops listed=[]:=by
   refine List.eq_nil_iff_forall_not_mem.2 fun i hi=>?_
   rw [mem_ready] at hi
   have:=(hM i).2 ⟨by have:=x1U hi.1;omega,hi.1⟩
   rw [hMn] at this
   simp at this
  exact ⟨hr,done listed M hM hlen he R hs hQ hr⟩
 | succ fuel ih =>
  intro listed M G en en' h h' a w hnd hp hM hlen hfuel down hgl he R hb hsz hs hQ
  refine ⟨done listed M hM hlen he R hs hQ,fun i hi=>?_⟩
  obtain ⟨hil,o,ho,hall⟩:=mem_ready.1 hi
  have hisz:i<ops.size:=by have:=x1U hil;omega
  have him:=(hM i).2 ⟨hisz,hil⟩
  obtain ⟨p,r,rfl⟩:=List.append_of_mem him
  have hcm:∀ x∈p.map f,x2R quiet x (f i)=true:=by
   intro y hy
   simp only [List.mem_map] at hy
   obtain ⟨x,hx,rfl⟩:=hy
   unfold xco at hp
   rw [List.pairwise_append] at hp
   rcases hp.2.2 x hx i (by simp) with hd | hd
   ·exfalso
    have h1:=x3G down _ _ _ o ho hall hd
    have h2:=((hM x).1 (by simp [hx])).2
    have h3:=x1U h2
    simp [h3] at h1 h2
    rw [h1] at h2
    simp at h2
   ·exact hd
  rw [List.map_append,List.map_cons] at hs
  have hs2:=xem hq hcm hs
  rw [x0i,Option.bind_eq_some_iff] at hs2
  obtain ⟨⟨v,h1⟩,e1,e2⟩:=hs2
  refine x7P hc ho (hf i o ho) hgl he R hb hsz e1 fun a' w' G' hreach hb' he' q1 q2=>?_
  have hsub:(p++r).Sublist (p++i::r):=List.Sublist.append_left (List.sublist_cons_self i r) p
  have hni:i ∉ p++r:=by
   have h1:=List.nodup_append.1 hnd
   have h2:=List.nodup_cons.1 h1.2.1
   intro hc
   rcases List.mem_append.1 hc with hc | hc
   ·exact h1.2.2 i hc i (by simp) rfl
   ·exact h2.1 hc
  rw [← List.map_append] at e2
  refine ih (listed.setIfInBounds i true) (p++r) (hnd.sublist hsub) (List.Pairwise.sublist hsub hp) ?_ (by simpa using hlen) (by simp at hfuel ⊢;omega) ?_ (hgl.ext hreach.ext) he' hreach.rel hb' (by omega) e2 fun a'' w'' G'' hreach' he'' r1 r2=>hQ a'' w'' G'' (hreach.trans hreach') he'' (r1.trans q1) (r2.trans q2)
  ·intro x
   by_cases hx:i=x
   ·subst hx
    constructor
    ·intro hx;exact absurd hx hni
    ·rintro ⟨_,hx⟩
     have:i<listed.size:=by omega
     simp [this] at hx
   ·rw [getD_set_ne true hx,← hM x]
    simp only [List.mem_append,List.mem_cons]
    constructor
    ·rintro (h1 | h1)
     ·exact .inl h1
     ·exact .inr (.inr h1)
    ·rintro (h1 | h1 | h1)
     ·exact .inl h1
     ·exact absurd h1.symm hx
     ·exact .inr h1
  ·intro x ox hox hxl e hm hbd
   by_cases hx:i=x
   ·subst hx
    rw [ho] at hox
    injection hox with hox
    subst hox
    exact getD_set_true (hall e hm hbd)
   ·rw [getD_set_ne false hx] at hxl
    exact getD_set_true (down x ox hox hxl e hm hbd)
def Ex.toExit:Ex→Exit
 | .normal=>.normal
 | .exit id=>.exit id
 | .ret=>.ret
theorem x2z {all:List Oper}:∀ {ops:List Oper} {aops:List AOper} (k:Nat),x5h P gl nt all ops=some aops→(∀ j o,ops[j]?=some o→all[k+j]?=some o) →
  All2 (fun i ao=>∃ o,all[i]?=some o∧x2Z P gl nt all o=some ao) (List.range' k ops.length) aops
 | [],aops,k,h,_=>by simp [x5h] at h;subst h;simp [All2]
 | o::ops,aops,k,h,hk=>by
  simp only [x5h,Option.bind_eq_some_iff,Option.map_eq_some_iff] at h
  obtain ⟨ao,h1,r,h2,rfl⟩:=h
  simp only [List.length_cons,List.range'_succ,All2]
  refine ⟨ao,r,rfl,⟨o,by simpa using hk 0 o (by simp),h1⟩,x2z (k+1) h2 fun j o' hj=>?_⟩
  have:=hk (j+1) o' (by simpa using hj)
  rwa [show k+(j+1)=k+1+j by omega] at this
def x7Y (P:Program) (gl:Nat→Option (List V)) (base nt:Nat) (c:Code) (f:Env→Heap→Option (Ex×Env×Heap)):Prop :=
 ∀ {G en en' h h' a w ex} {Q:Exit→Act→World→Prop},x0V G gl→x0w G en a.tmps→Rel G h w→base≤h.length→nt≤a.tmps.size→f en h=some (ex,en',h') →
  (∀ a' w' G',Reach G w h' w' G'→x0w G' en' a'.tmps→a'.tmps.size=a.tmps.size→a'.defers=a.defers→Q ex.toExit a' w')→c.wp P Q a w
theorem xfP {c:Code} {f:Env→Heap→Option (Ex×Env×Heap)} {Q:Exit→Act→World→Prop} (hf:x7Y P gl base nt c f)
  (hgrow:∀ en h ex en' h',base≤h.length→f en h=some (ex,en',h')→Grow base h h') :
  ∀ (k:Nat) {G:Tie} {en en':Env} {h h':Heap} {a:Act} {w:World} {ex:Ex},x0V G gl→x0w G en a.tmps→Rel G h w→base≤h.length→nt≤a.tmps.size→iter f k en h=some (ex,en',h') →
   (∀ a' w' G',Reach G w h' w' G'→x0w G' en' a'.tmps→a'.tmps.size=a.tmps.size→a'.defers=a.defers→Q ex.toExit a' w')→Code.rounds P c Q k a w
 | 0,_,_,_,_,_,_,_,_,_,_,_,_,_,hs,_=>by simp [iter] at hs
 | k+1,G,en,en',h,h',a,w,ex,hgl,he,R,hb,hsz,hs,hQ=>by
  rw [rounds_succ]
  unfold iter at hs
  split at hs
  ·rename_i en1 h1 e1
   refine hf hgl he R hb hsz e1 fun a' w' G' hreach he' q1 q2=>?_
   refine xfP hf hgrow k (hgl.ext hreach.ext) he' hreach.rel (Nat.le_trans hb (hgrow _ _ _ _ _ hb e1).1) (by omega) hs fun a'' w'' G'' hreach' he'' r1 r2=>?_
   exact hQ a'' w'' G'' (hreach.trans hreach') he'' (r1.trans q1) (r2.trans q2)
  ·rename_i hno
   refine hf hgl he R hb hsz hs fun a' w' G' hreach he' q1 q2=>?_
   have:=hQ a' w' G' hreach he' q1 q2
   cases ex with
   | normal=>exact absurd hs (hno en' h')
   | exit id=>exact this
   | ret=>exact this
theorem All2.mono {α β:Type} {R S:α→β→Prop} (h:∀ a b,R a b→S a b):∀ {as:List α} {bs:List β},All2 R as bs→All2 S as bs
 | [],_,e=>e
 | _::_,_,⟨b,rest,e,r,t⟩=>⟨b,rest,e,h _ _ r,All2.mono h t⟩
theorem All2.map_right {α β γ:Type} {R:α→γ→Prop} (f:β→γ):∀ {as:List α} {bs:List β},All2 (fun a b=>R a (f b)) as bs→All2 R as (bs.map f)
 | [],bs,h=>by simp only [All2] at h;subst h;simp [All2]
 | a::as,bs,h=>by
  simp only [All2] at h
  obtain ⟨b,r,rfl,h1,h2⟩:=h
  simp only [List.map_cons,All2]
  exact ⟨_,_,rfl,h1,All2.map_right f h2⟩
theorem All2.length {α β:Type} {R:α→β→Prop}:∀ {as:List α} {bs:List β},All2 R as bs→bs.length=as.length
 | [],_,e=>by simp only [All2] at e;subst e;rfl
 | _::_,_,⟨b,rest,e,r,t⟩=>by subst e;simp [All2.length t]
theorem All2.get {α β:Type} {R:α→β→Prop}:∀ {as:List α} {bs:List β},All2 R as bs→∀ (i:Nat) (a:α),as[i]?=some a→∃ b,bs[i]?=some b∧R a b
 | [],_,_,i,a,h=>by simp at h
 | x::as,_,⟨b,rest,e,r,t⟩,0,a,h=>by
  simp only [List.getElem?_cons_zero,Option.some.injEq] at h
  subst h
  exact ⟨b,by simp [e],r⟩
 | x::as,_,⟨b,rest,e,r,t⟩,i+1,a,h=>by
  simp only [List.getElem?_cons_succ] at h
  obtain ⟨b',h1,h2⟩:=All2.get t i a h
  exact ⟨b',by simp [e,h1],h2⟩
theorem x7R {quiet:FuncId→Nat} {ops:List Oper} {l:List AOper}:∀ {pi:List Nat},xa5 quiet ops l pi=true→xco quiet ops (fun i=>l.getD i default) pi
 | [],_=>List.Pairwise.nil
 | x::r,h=>by
  simp only [xa5,Bool.and_eq_true,List.all_eq_true,Bool.or_eq_true] at h
  refine List.Pairwise.cons (fun i hi=>?_) (x7R h.2)
  rcases h.1 i hi with h1 | h1
  ·exact .inl h1
  ·right
   cases hx:l[x]? with
   | none=>rw [hx] at h1;simp at h1
   | some a =>
    cases hi:l[i]? with
    | none=>rw [hx,hi] at h1;simp at h1
    | some b =>
     rw [hx,hi] at h1
     simpa [List.getD,hx,hi] using h1
theorem x4M:∀ {pi:List Nat},x8A pi=true→pi.Nodup
 | [],_=>List.nodup_nil
 | x::r,h=>by
  simp only [x8A,Bool.and_eq_true,Bool.not_eq_true'] at h
  exact List.nodup_cons.2 ⟨by simpa using h.1,x4M h.2⟩
end
end
section
open Go.RowKit (Below)
def Tie.withKp (G:Tie) (f:Nat→Bool):Tie:={ G with kp:=f }
theorem Ext0.addKp (G:Tie) (f:Nat→Bool):Ext0 G (G.withKp f):=⟨fun _ _ _ h=>h,Nat.le_refl _,fun _ _=>rfl,fun _ _ L h=>⟨L,h,Nat.le_refl _,fun _=>rfl⟩,rfl⟩
theorem Rel.withKp {G:Tie} {h:Heap} {w:World} (R:Rel G h w) {f:Nat→Bool} (hf:∀ k,f k=true→k<w.heap.size∧(∀ o,G.fz k o=none)∧∀ b,G.real h b≠some k):Rel (G.withKp f) h w where
 n:=R.n
 fz:=R.fz
 box b t cs e:=let ⟨h1,rs,h2,h3⟩:=R.box b t cs e;⟨h1,rs,h2,RepL.ext0 (Ext0.addKp G f) h3⟩
 row b t sz e rows eq:=let ⟨h0,L,rs,h1,h2,h3,h4,h5,h6,h7⟩:=R.row b t sz e rows eq;⟨h0,L,rs,h1,h2,h3,h4,h5,h6,h7.ext0 (Ext0.addKp G f)⟩
 mp b es e:=let ⟨l,c,h1,h2⟩:=R.mp b es e;⟨l,c,h1,RepM.ext0 (Ext0.addKp G f) h2⟩
 low:=R.low
 inj:=R.inj
 hb0:=R.hb0
 kp k hk:=hf k hk
def x6U (en:Env):AOp→Option ((Nat→V)×Obj)
 | .alloc t zs=>some (fun n=>.ptr n 0,.box t zs)
 | .box t x=>if (x.get en).cells.all zm=true then some (fun n=>.ptr n 0,.box t (x.get en).cells) else none
 | .makeMap=>some (fun n=>.mp n,.mmap [])
 | _=>none
section
variable {P:Program} {gl:Nat→Option (List V)} {call:x3T} {base n nt:Nat} {quiet:FuncId→Nat}
theorem xcZ {en:Env} {h:Heap} {op:AOp} (hl:op.lay=true):step base en h op=(x6U en op).map fun p=>(p.1 h.length,h++[p.2]):=by
 cases op<;>simp [AOp.lay] at hl<;>simp only [step,x6U,Option.map_some]
 split<;>rfl
theorem x6T {en en':Env} {op:AOp} (he:∀ t∈x1M op.opds,en t=en' t):x6U en op=x6U en' op:=by
 cases op with
 | box t x=>simp only [x6U,x6e (l:=[x]) he (x:=x) (by simp)]
 | _=>rfl
def xdU:Obj→Bool
 | .box .. | .mmap _=>true
 | _=>false
theorem xfK {en:Env} {op:AOp} {p:(Nat→V)×Obj} (h:x6U en op=some p):xdU p.2=true:=by
 cases op<;>simp only [x6U,reduceCtorEq] at h
 ·injection h with h;subst h;rfl
 ·split at h
  ·injection h with h;subst h;rfl
  ·simp at h
 ·injection h with h;subst h;rfl
theorem Rel.tie {G:Tie} {h:Heap} {w:World} (R:Rel G h w) (k:Nat) (ob:Obj) (hb0:G.b0≤k) (hfree:∀ o,G.fz k o=none) (hkp:G.kp k=false) (hown:∀ c,G.real h c≠some k) (hnew:xdU ob=true)
  (hbox:∀ t cs,ob=.box t cs→cs.all zm=true∧∃ rs,w.heap[k]?=some (.cells rs t (0,0))∧RepL (G.newBox k) cs rs.toList)
  (hmp:∀ es,ob=.mmap es→∃ l clock,w.heap[k]?=some (.map l clock)∧RepM (G.newBox k) es l.toList):Rel (G.newBox k) (h++[ob]) w:=by
 have hlast:(h++[ob])[G.n]?=some ob:=by rw [R.n,List.getElem?_append_right (Nat.le_refl _)];simp
 have hbx:(G.newBox k).bx G.n=k:=by simp [Tie.newBox]
 refine R.put (Ext.newBox G k) G.n k ?_ ?_ rfl ?_ (fun _ _=>rfl) ?_ hb0 hfree hkp (fun c _=>hown c) (Nat.le_refl _) (fun _ _ _=>rfl) ?_ ?_ ?_
 ·intro c hc
  rw [R.n] at hc
  rcases Nat.lt_or_ge c h.length with hl | hl
  ·rw [List.getElem?_append_left hl]
  ·rw [List.getElem?_eq_none hl,List.getElem?_eq_none (by simp;omega)]
 ·simp [Tie.newBox,R.n]
 ·intro c hc
  simp only [Tie.newBox]
  rw [if_neg hc]
 ·intro k' hk'
  unfold Tie.real at hk'
  rw [hlast] at hk'
  cases ob<;>simp [xdU] at hnew<;>simp only [Option.some.injEq,hbx] at hk'<;>exact hk'.symm
 ·intro t cs e
  rw [hlast] at e
  injection e with e
  rw [hbx]
  exact hbox t cs e
 ·intro t sz e rows eq
  rw [hlast] at eq
  injection eq with eq
  subst eq
  simp [xdU] at hnew
 ·intro es e
  rw [hlast] at e
  injection e with e
  rw [hbx]
  exact hmp es e
theorem xbO {G:Tie} {h:Heap} {ob:Obj} {k b k':Nat} (hn:G.n=h.length) (hnew:xdU ob=true) (hr:(G.newBox k).real (h++[ob]) b=some k'):k'=k∨G.real h b=some k':=by
 rcases Nat.lt_or_ge b h.length with hb | hb
 ·right
  have hne:¬ b=G.n:=by omega
  unfold Tie.real at hr ⊢
  rw [List.getElem?_append_left hb] at hr
  simp only [Tie.newBox,if_neg hne] at hr
  exact hr
 ·have hbl:b<(h++[ob]).length:=Rel.real_lt hr
  have hbe:b=h.length:=by simp at hbl;omega
  subst hbe
  left
  unfold Tie.real at hr
  rw [List.getElem?_append_right (Nat.le_refl _)] at hr
  simp only [Nat.sub_self,List.getElem?_cons_zero] at hr
  cases ob<;>simp [xdU] at hnew<;>simp only [Tie.newBox,hn,if_true,Option.some.injEq] at hr<;>exact hr.symm
def xgY (G:Tie) (k:Nat) (robj:Go.Obj) (mk:Nat→V) (ob:Obj) (r:Value):Prop :=
 ∀ (G2:Tie) (h2:Heap) (w2:World),Ext G G2→Rel G2 h2 w2→w2.heap[k]?=some robj→G2.b0≤k→(∀ c,G2.fz k c=none)→G2.kp k=false→(∀ b,G2.real h2 b≠some k) →
  Rel (G2.newBox k) (h2++[ob]) w2∧RepV (G2.newBox k) (mk h2.length) r
theorem xgY.ext {G G':Tie} {k:Nat} {robj:Go.Obj} {mk:Nat→V} {ob:Obj} {r:Value} (h:xgY G k robj mk ob r) (x:Ext G G'):xgY G' k robj mk ob r:=fun G2 h2 w2 y=>h G2 h2 w2 (x.trans y)
def NoL (x:Option AOp):Prop:=∀ y,x=some y→y.lay=false
theorem NoL.none:NoL none:=fun _ e=>by simp at e
theorem NoL.some {y:AOp} (h:y.lay=false):NoL (some y):=fun _ e=>by injection e with e;rw [← e];exact h
theorem NoL.map {α:Type} {x:Option α} {f:α→AOp} (h:∀ a,(f a).lay=false):NoL (x.map f):=fun _ e=>by
 simp only [Option.map_eq_some_iff] at e
 obtain ⟨a,_,rfl⟩:=e
 exact h a
theorem NoL.bind {α:Type} {x:Option α} {f:α→Option AOp} (h:∀ a,NoL (f a)):NoL (x.bind f):=fun y e=>by
 simp only [Option.bind_eq_some_iff] at e
 obtain ⟨a,_,e⟩:=e
 exact h a y e
theorem NoL.ite {c:Prop} [Decidable c] {x y:Option AOp} (hx:NoL x) (hy:NoL y):NoL (if c then x else y):=by
 split
 ·exact hx
 ·exact hy
theorem xex {op:Op} {ao:AOp} (h:x2Q P gl op=some ao) (hl:ao.lay=true) :
  (∃ t zs,op=.alloc t∧ao=.alloc t zs∧x5y P t=some zs)∨(∃ t x x',op=.box t x∧ao=.box t x'∧opd gl x=some x')∨(∃ t,op=.makeMap t none∧ao=.makeMap):=by
 have hno:∀ x:Option AOp,NoL x→x≠some ao:=fun x hx e=>by have:=hx _ e;rw [hl] at this;simp at this
 cases op
 case alloc t =>
  simp only [x2Q,Option.map_eq_some_iff] at h
  obtain ⟨zs,hz,he⟩:=h
  split at he
  ·subst he;simp [AOp.lay] at hl
  ·exact .inl ⟨t,zs,rfl,he.symm,hz⟩
 case box t x =>
  simp only [x2Q,Option.map_eq_some_iff] at h
  obtain ⟨x',hx,he⟩:=h
  split at he
  ·subst he;simp [AOp.lay] at hl
  ·split at he
   ·subst he;simp [AOp.lay] at hl
   ·exact .inr (.inl ⟨t,x,x',rfl,he.symm,hx⟩)
 case makeMap t r =>
  cases r with
  | none =>
   simp only [x2Q,Option.some.injEq] at h
   exact .inr (.inr ⟨t,rfl,h.symm⟩)
  | some r=>simp [x2Q] at h
 case call c =>
  exfalso
  obtain ⟨callee,as,ts⟩:=c
  simp only [x2Q,x7o] at h
  refine hno _ ?_ h
  unfold x4X
  repeat' first
   | exact NoL.none
   | exact NoL.some rfl
   | exact NoL.map fun _=>rfl
   | refine NoL.bind fun _=>?_
   | refine NoL.ite ?_ ?_
   | split
 all_goals
  exfalso
  refine hno _ ?_ h
  simp only [x2Q,x7G,x6v]
  repeat' first
   | exact NoL.none
   | exact NoL.some rfl
   | exact NoL.map fun _=>rfl
   | refine NoL.bind fun _=>?_
   | refine NoL.ite ?_ ?_
   | split
theorem xci {all:List Oper} {o:Oper} {ao:AOper} (h:x2Z P gl nt all o=some ao) (hl:ao.op.lay=true):x2Q P gl o.op=some ao.op:=by
 have hop:ao.op=x5O P gl o.op:=by
  unfold x2Z at h
  simp only at h
  split at h
  ·split at h
   ·injection h with h;rw [← h]
   ·simp only [Option.map_eq_some_iff] at h
    obtain ⟨d,_,rfl⟩:=h
    rfl
  ·simp at h
 unfold x5O at hop
 cases hc:x2Q P gl o.op with
 | none=>rw [hc] at hop;rw [hop] at hl;simp [AOp.lay] at hl
 | some y=>rw [hc] at hop;rw [hop];rfl
theorem xjU {G:Tie} {en:Env} {h:Heap} {a:Act} {w:World} {o:Oper} {ao:AOper} {all:List Oper} {mk:Nat→V} {ob:Obj} (hgl:x0V G gl) (he:x0w G en a.tmps) (R:Rel G h w)
  (hco:x2Z P gl nt all o=some ao) (hl:ao.op.lay=true) (e:x6U en ao.op=some (mk,ob)) :
  ∃ r robj,(execOp a.eval o).run P w=.ok (.value r) (w.alloc robj)∧r.oneCell'=true∧xgY G w.heap.size robj mk ob r:=by
 rcases xex (xci hco hl) hl with ⟨t,zs,hop,hao,hz⟩ | ⟨t,x,x',hop,hao,hx⟩ | ⟨t,hop,hao⟩
 ·rw [hao] at e
  simp only [x6U,Option.some.injEq,Prod.mk.injEq] at e
  obtain ⟨rfl,rfl⟩:=e
  obtain ⟨z,hr,hs⟩:=x8l hz w
  refine ⟨.pointer (some ⟨w.heap.size,0,none⟩),.cells z.cells t (0,0),?_,rfl,fun G2 h2 w2 x R2 hw hb hf hk hown=>⟨R2.tie _ _ hb hf hk hown rfl ?_ (fun es e=>by simp at e),?_⟩⟩
  ·simp [execOp,hop,Instr.alloc,hr,newVar,newRow]
  ·intro t' cs e
   simp only [Obj.box.injEq] at e
   obtain ⟨rfl,rfl⟩:=e
   exact ⟨(x62 hs).1,_,hw,x3V hs⟩
  ·simp [RepV,Tie.newBox,R2.n]
 ·rw [hao] at e
  simp only [x6U] at e
  split at e
  ·rename_i hone
   simp only [Option.some.injEq,Prod.mk.injEq] at e
   obtain ⟨rfl,rfl⟩:=e
   have hxr:=x0l hgl he hx
   have hu:x'.get en≠.undef:=by
    intro e
    rw [e] at hone
    simp [V.cells,zm] at hone
   refine ⟨.pointer (some ⟨w.heap.size,0,none⟩),.cells (a.eval x).cells t (0,0),?_,rfl,fun G2 h2 w2 x R2 hw hb hf hk hown=>⟨R2.tie _ _ hb hf hk hown rfl ?_ (fun es e=>by simp at e),?_⟩⟩
   ·simp [execOp,hop,Instr.box,newVar,newRow]
   ·intro t' cs e
    simp only [Obj.box.injEq] at e
    obtain ⟨rfl,rfl⟩:=e
    exact ⟨hone,_,hw,RepL.ext (x.trans (Ext.newBox G2 _)) (hxr.cells hu)⟩
   ·simp [RepV,Tie.newBox,R2.n]
  ·simp at e
 ·rw [hao] at e
  simp only [x6U,Option.some.injEq,Prod.mk.injEq] at e
  obtain ⟨rfl,rfl⟩:=e
  refine ⟨.map (some w.heap.size),.map #[] 0,?_,rfl,fun G2 h2 w2 x R2 hw hb hf hk hown=>⟨R2.tie _ _ hb hf hk hown rfl (fun t cs e=>by simp at e) ?_,?_⟩⟩
  ·simp [execOp,hop,Instr.makeMap]
  ·intro es e
   simp only [Obj.mmap.injEq] at e
   subst e
   exact ⟨#[],0,hw,rfl⟩
  ·simp [RepV,Tie.newBox,R2.n]
end
end
section
open Go.RowKit (Below)
section
variable {P:Program} {gl:Nat→Option (List V)} {call:x3T} {base nt:Nat} {quiet:FuncId→Nat}
theorem x90 {x y:AOper} (h:x2R quiet x y=true):memO x.dst y.slots=false∧memO y.dst x.slots=false∧∀ d,x.dst=some d→y.dst≠some d:=by
 unfold x2R at h
 simp only [Bool.and_eq_true,Bool.not_eq_true'] at h
 obtain ⟨⟨⟨h1,h2⟩,h3⟩,_⟩:=h
 refine ⟨h1,h2,fun d e e2=>?_⟩
 rw [e,e2] at h3
 simp at h3
theorem xaP {x y:AOper} (h:xah x y=true):memO x.dst y.slots=false∧memO y.dst x.slots=false∧∀ d,x.dst=some d→y.dst≠some d:=by
 unfold xah at h
 simp only [Bool.and_eq_true,Bool.not_eq_true'] at h
 obtain ⟨⟨⟨_,h1⟩,h2⟩,h3⟩:=h
 refine ⟨h1,h2,fun d e e2=>?_⟩
 rw [e,e2] at h3
 simp at h3
theorem xfL {x y:AOper} (h:xah x y=true):y.op.lay=true∧y.guard=none∧y.off=[]∧∃ d,y.dst=some d∧memO (some d) y.slots=false:=by
 unfold xah at h
 simp only [Bool.and_eq_true,Bool.not_eq_true',Option.isNone_iff_eq_none,List.isEmpty_iff,Option.isSome_iff_exists] at h
 obtain ⟨⟨⟨⟨⟨⟨⟨h1,h2⟩,h3⟩,⟨d,h4⟩⟩,h5⟩,_⟩,_⟩,_⟩:=h
 exact ⟨h1,h2,h3,d,h4,by rw [← h4];exact h5⟩
theorem xcW {d:Option Nat} {l:List Nat} {en:Env} {v:V} (h:memO d l=false):∀ t∈l,(en.put d v) t=en t:=fun t ht=>Env.put_other (x2S h t ht)
theorem x7l:∀ {p:List AOper} {en en1:Env} {h h1:Heap},x1i call base p en h=some (en1,h1)→∀ t,(∀ x∈p,x.dst≠some t)→en1 t=en t
 | [],_,_,_,_,hs,t,_=>by
  simp only [x1i,Option.some.injEq,Prod.mk.injEq] at hs
  rw [hs.1]
 | x::p,en,en1,h,h1,hs,t,hx=>by
  rw [x0i,Option.bind_eq_some_iff] at hs
  obtain ⟨q,_,e2⟩:=hs
  rw [x7l e2 t fun y hy=>hx y (by simp [hy]),Env.put_other (hx x (by simp))]
theorem Env.put_same {en:Env} {d:Nat} {u v:V}:(en.put (some d) u).put (some d) v=en.put (some d) v:=by
 funext t
 show (if t=d then v else if t=d then u else en t)=if t=d then v else en t
 split<;>rfl
theorem xbf {l:AOper} {r:List AOper} {d:Nat} {u:V} (hl:l.dst=some d) (hls:memO (some d) l.slots=false) :
  ∀ {p:List AOper} {en:Env} {h:Heap},(∀ x∈p,x.dst≠some d∧memO (some d) x.slots=false)→x1i call base (p++l::r) (en.put (some d) u) h=x1i call base (p++l::r) en h
 | [],en,h,_=>by
  simp only [List.nil_append,x0i]
  rw [x4j (en':=en) (xcW hls)]
  congr 1
  funext q
  rw [hl,Env.put_same]
 | x::p,en,h,hp=>by
  simp only [List.cons_append,x0i]
  obtain ⟨h1,h2⟩:=hp x (by simp)
  rw [x4j (en':=en) (xcW h2)]
  congr 1
  funext q
  rw [Env.put_comm (fun c e=>by injection e with e;subst e;exact h1)]
  exact xbf hl hls fun y hy=>hp y (by simp [hy])
theorem xbe {o:AOper} {en:Env} {h:Heap} (hl:o.op.lay=true) (hg:o.guard=none) (ho:o.off=[]):x0M call base o en h=step base en h o.op:=by
 unfold x0M
 rw [hg]
 simp only
 unfold x1x
 rw [if_pos (x7f ho en)]
 exact x3e ⟨fun f a e=>by rw [e] at hl;simp [AOp.lay] at hl,fun f a t e=>by rw [e] at hl;simp [AOp.lay] at hl⟩
theorem x3Y {listed:Array Bool} {i:Nat} (h:listed.getD i false=true):i<listed.size:=by
 rcases Nat.lt_or_ge i listed.size with h' | h'
 ·exact h'
 ·simp [Array.getElem?_eq_none h'] at h
theorem x7V {listed:Array Bool} {i:Nat} (h:listed.getD i false=true):listed.getD i true=true:=by
 have:=x3Y h
 simp [this] at h ⊢
 exact h
theorem x4T {listed:Array Bool} {i:Nat} (h:listed.getD i false=true) (k:listed.getD i true=false):False:=by
 rw [x7V h] at k
 simp at k
def Pend (f:Nat→AOper) (G:Tie) (w:World) (h:Heap) (en:Env) (i k:Nat):Prop :=
 (f i).op.lay=true∧(f i).guard=none∧(f i).off=[]∧∃ d r mk ob robj,(f i).dst=some d∧en d=.sc r∧x6U en (f i).op=some (mk,ob)∧w.heap[k]?=some robj∧G.b0≤k∧(∀ c,G.fz k c=none)∧G.kp k=false∧(∀ b,G.real h b≠some k)∧xgY G k robj mk ob r
def Sep (x y:AOper):Prop:=memO x.dst y.slots=false∧∀ d,x.dst=some d→y.dst≠some d
structure St (P:Program) (gl:Nat→Option (List V)) (call:x3T) (base nt:Nat) (quiet:FuncId→Nat) (ops:Array Oper) (f:Nat→AOper) (late:Nat→Bool) (listed:Array Bool) (a:Act) (w:World) (en':Env) (h':Heap)
  (M:List Nat) (Pd:List (Nat×Nat)) (G:Tie) (en:Env) (h:Heap):Prop where
 lsz:listed.size=ops.size
 nodup:M.Nodup
 pairs:∀ x i,[x,i].Sublist M→depB ops.toList ops.toList.length i x=true∨x2R quiet (f x) (f i)=true∨(late i=true∧xah (f x) (f i)=true)
 lates:∀ i j,[i,j].Sublist M→late i=true→x2R quiet (f i) (f j)=true∨∀ x,[x,i].Sublist M→x2R quiet (f x) (f i)=true∨depB ops.toList ops.toList.length j x=true
 mem:∀ i,i∈M↔i<ops.size∧(listed.getD i true=false∨∃ k,(i,k)∈Pd)
 pend:∀ i k,(i,k)∈Pd→listed.getD i false=true∧late i=true∧Pend f G w h en i k
 apart:Pd.Pairwise fun p q=>p.1≠q.1∧p.2≠q.2∧Sep (f p.1) (f q.1)∧Sep (f q.1) (f p.1)
 hgl:x0V G gl
 he:x0w G en a.tmps
 R:Rel G h w
 hb:base≤h.length
 hsz:nt≤a.tmps.size
 run:x1i call base (M.map f) en h=some (en',h')
section
variable {ops:Array Oper} {f:Nat→AOper} {late:Nat→Bool} {listed:Array Bool} {a:Act} {w:World} {en':Env} {h':Heap} {M:List Nat} {Pd:List (Nat×Nat)} {G:Tie} {en:Env} {h:Heap}
theorem x5k {p r:List Nat} {x i:Nat} (hx:x∈p):[x,i].Sublist (p++i::r):=by
 obtain ⟨p1,p2,rfl⟩:=List.append_of_mem hx
 simp only [List.append_assoc,List.cons_append]
 refine (List.Sublist.cons_cons x ?_).trans (List.sublist_append_right p1 _)
 exact List.singleton_sublist.2 (by simp)
theorem x5A {p r:List Nat} {y i:Nat} (hy:y∈r):[i,y].Sublist (p++i::r) :=
 (List.Sublist.cons_cons i (List.singleton_sublist.2 hy)).trans (List.sublist_append_right p _)
theorem Pend.put {i k:Nat} {d:Option Nat} {v:V} {G2:Tie} {w2:World} {h2:Heap} (hp:Pend f G w h en i k) (hs:memO d (f i).slots=false∧∀ c,d=some c→(f i).dst≠some c) (x:Ext G G2) (hw:w2.heap[k]?=w.heap[k]?)
  (hf:∀ c,G2.fz k c=none) (hr:∀ b,G2.real h2 b≠some k):Pend f G2 w2 h2 (en.put d v) i k:=by
 obtain ⟨h1,h2,h3,c,r,mk,ob,robj,q1,q2,q3,q4,q5,q6,q7,q8,q9⟩:=hp
 refine ⟨h1,h2,h3,c,r,mk,ob,robj,q1,?_,?_,hw.trans q4,by rw [x.b0];exact q5,hf,by rw [x.kp];exact q7,hr,q9.ext x⟩
 ·rw [Env.put_other (fun e=>hs.2 c e q1)]
  exact q2
 ·rw [← q3]
  refine x6T fun t ht=>Env.put_other (x2S hs.1 t ?_)
  unfold AOper.slots
  simp [ht]
theorem St.flush (hq:x1w quiet call) (S:St P gl call base nt quiet ops f late listed a w en' h' M Pd G en h) {i k:Nat} (hik:(i,k)∈Pd) (hx:∀ x,[x,i].Sublist M→x2R quiet (f x) (f i)=true) :
  ∃ M1 Pd1 G1 en1 h1,St P gl call base nt quiet ops f late listed a w en' h' M1 Pd1 G1 en1 h1∧Reach G w h1 w G1∧Pd1.length<Pd.length:=by
 obtain ⟨hl,_,p1,p2,p3,d,r,mk,ob,robj,q1,q2,q3,q4,q5,q6,q7,q8,q9⟩:=S.pend i k hik
 have him:i∈M:=(S.mem i).2 ⟨by have:=x3Y hl;rw [S.lsz] at this;exact this,.inr ⟨k,hik⟩⟩
 obtain ⟨p,m,rfl⟩:=List.append_of_mem him
 obtain ⟨Pp,Pr,rfl⟩:=List.append_of_mem hik
 have hcm:∀ x∈p.map f,x2R quiet x (f i)=true:=by
  intro y hy
  obtain ⟨x,hxp,rfl⟩:=List.mem_map.1 hy
  exact hx x (x5k hxp)
 have hrun:=S.run
 rw [List.map_append,List.map_cons] at hrun
 have hs:=xem hq hcm hrun
 rw [x0i,xbe p1 p2 p3,xcZ p1,q3,Option.map_some,Option.bind_some,q1] at hs
 obtain ⟨R',hV⟩:=q9 G h w (Ext.refl G) S.R q4 q5 q6 q7 q8
 have x:=Ext.newBox G k
 have hap:∀ q∈Pp++Pr,i≠q.1∧k≠q.2∧Sep (f i) (f q.1)∧Sep (f q.1) (f i):=by
  have:=(List.pairwise_middle (R:=fun p q:Nat×Nat=>p.1≠q.1∧p.2≠q.2∧Sep (f p.1) (f q.1)∧Sep (f q.1) (f p.1)) (fun ⟨h1,h2,h3,h4⟩=>⟨h1.symm,h2.symm,h4,h3⟩)).1 S.apart
  exact (List.pairwise_cons.1 this).1
 have hsub:(p++m).Sublist (p++i::m):=List.Sublist.append_left (List.sublist_cons_self i m) p
 have hni:i ∉ p++m:=by
  have h1:=List.nodup_append.1 S.nodup
  have h2:=List.nodup_cons.1 h1.2.1
  intro hc
  rcases List.mem_append.1 hc with hc | hc
  ·exact h1.2.2 i hc i (by simp) rfl
  ·exact h2.1 hc
 have hsubP:(Pp++Pr).Sublist (Pp++(i,k)::Pr):=List.Sublist.append_left (List.sublist_cons_self _ _) _
 refine ⟨p++m,Pp++Pr,G.newBox k,en.put (some d) (mk h.length),h++[ob],⟨S.lsz,S.nodup.sublist hsub,fun y j hyj=>S.pairs y j (hyj.trans hsub),fun y j hyj hly=>?_,fun y=>?_,fun y ky hy=>?_,S.apart.sublist hsubP,S.hgl.ext x,fun t=>?_,R',by simp only [List.length_append];have:=S.hb;omega,S.hsz,?_⟩,⟨x,R',Bel.refl _ _⟩,by simp⟩
 ·rcases S.lates y j (hyj.trans hsub) hly with h1 | h1
  ·exact .inl h1
  ·exact .inr fun z hz=>h1 z (hz.trans hsub)
 ·have hm:=S.mem y
  by_cases hyi:y=i
  ·subst hyi
   constructor
   ·intro hc;exact absurd hc hni
   ·rintro ⟨_,hc | ⟨k',hc⟩⟩
    ·rw [x7V hl] at hc
     simp at hc
    ·exact absurd rfl (hap _ hc).1
  ·have e1:y∈p++m↔y∈p++i::m:=by simp [hyi]
   have e2:∀ k',(y,k')∈Pp++Pr↔(y,k')∈Pp++(i,k)::Pr:=fun k'=>by simp [hyi]
   rw [e1,hm]
   simp only [e2]
 ·obtain ⟨s1,s2,s3⟩:=S.pend y ky (hsubP.subset hy)
  obtain ⟨a1,a2,a3,a4⟩:=hap _ hy
  refine ⟨s1,s2,s3.put ⟨by rw [← q1];exact a3.1,fun c e=>a3.2 c (by rw [q1];exact e)⟩ x rfl (fun c=>?_) (fun b hb=>?_)⟩
  ·obtain ⟨_,_,_,_,_,_,_,_,_,_,_,_,_,z6,_⟩:=s3
   exact z6 c
  ·obtain ⟨_,_,_,_,_,_,_,_,_,_,_,_,_,_,_,z8,_⟩:=s3
   rcases xbO S.R.n (xfK q3) hb with e | e
   ·exact a2 e.symm
   ·exact z8 b e
 ·show RepV (G.newBox k) (if t=d then mk h.length else en t) _
  split
  ·rename_i e
   subst e
   have:=S.he t
   rw [q2] at this
   rw [this.sc_inv]
   exact hV
  ·exact (S.he t).ext x
 ·rw [List.map_append]
  exact hs
theorem St.normal (hq:x1w quiet call):∀ (n:Nat) {M:List Nat} {Pd:List (Nat×Nat)} {G:Tie} {en:Env} {h:Heap},Pd.length≤n→St P gl call base nt quiet ops f late listed a w en' h' M Pd G en h →
  ∃ M1 Pd1 G1 en1 h1,St P gl call base nt quiet ops f late listed a w en' h' M1 Pd1 G1 en1 h1∧Reach G w h1 w G1∧∀ i k,(i,k)∈Pd1→∃ x,[x,i].Sublist M1∧x2R quiet (f x) (f i)≠true
 | 0,M,Pd,G,en,h,hn,S=>by
  have:Pd=[]:=by simpa using hn
  subst this
  exact ⟨M,[],G,en,h,S,Reach.refl S.R,fun i k hik=>by simp at hik⟩
 | n+1,M,Pd,G,en,h,hn,S=>by
  by_cases hall:∀ i k,(i,k)∈Pd→∃ x,[x,i].Sublist M∧x2R quiet (f x) (f i)≠true
  ·exact ⟨M,Pd,G,en,h,S,Reach.refl S.R,hall⟩
  ·obtain ⟨i,hall⟩:=Classical.not_forall.1 hall
   obtain ⟨k,hall⟩:=Classical.not_forall.1 hall
   obtain ⟨hik,hno⟩:=Classical.not_imp.1 hall
   obtain ⟨M1,Pd1,G1,en1,h1,S1,hr,hlt⟩:=S.flush hq hik fun x hx=>by
    cases hc:x2R quiet (f x) (f i) with
    | true=>rfl
    | false=>exact absurd ⟨x,hx,by rw [hc];simp⟩ hno
   obtain ⟨M2,Pd2,G2,en2,h2,S2,hr2,hnorm⟩:=St.normal hq n (by omega) S1
   exact ⟨M2,Pd2,G2,en2,h2,S2,hr.trans hr2,hnorm⟩
end
theorem x7U {M:List Nat} (hnd:M.Nodup) {x i:Nat} (h:[x,i].Sublist M):M.idxOf x<M.idxOf i:=by
 induction M with
 | nil=>simp at h
 | cons m M ih =>
  obtain ⟨h1,h2⟩:=List.nodup_cons.1 hnd
  cases h with
  | cons _ h =>
   have hx:x∈M:=h.subset (by simp)
   have hi:i∈M:=h.subset (by simp)
   have e1:m≠x:=fun e=>h1 (e▸hx)
   have e2:m≠i:=fun e=>h1 (e▸hi)
   have:=ih h2 h
   rw [List.idxOf_cons,List.idxOf_cons,beq_eq_false_iff_ne.2 e1,beq_eq_false_iff_ne.2 e2]
   simpa using this
  | cons_cons _ h =>
   have hi:i∈M:=h.subset (by simp)
   have e2:x≠i:=fun e=>h1 (e▸hi)
   rw [List.idxOf_cons,List.idxOf_cons,beq_eq_false_iff_ne.2 e2]
   simp
theorem xkK (hq:x1w quiet call) (hc:CallOk P gl call) {ops:Array Oper} {Q:Exit→Act→World→Prop} {f:Nat→AOper} {late:Nat→Bool} {en':Env} {h':Heap}
  (hf:∀ (i:Nat) (o:Oper),ops[i]?=some o→x6L P gl nt ops.toList o (f i)∧((f i).op.lay=true→x2Z P gl nt ops.toList o=some (f i)))
  (hback:∀ (i:Nat) (o:Oper),ops[i]?=some o→∀ e∈o.after,Region.binds .any e=true→e.on<i) :
  ∀ (fuel:Nat) (listed:Array Bool) (U:List Nat) {a:Act} {w:World} {M:List Nat} {Pd:List (Nat×Nat)} {G:Tie} {en:Env} {h:Heap},
   St P gl call base nt quiet ops f late listed a w en' h' M Pd G en h→U.length≤fuel→(∀ i,i<ops.size→listed.getD i true=false→i∈U) →
   (∀ (i:Nat) (o:Oper),ops[i]?=some o→listed.getD i false=true→∀ e∈o.after,Region.binds .any e=true→listed.getD e.on false=true) →
   (∀ a' w' G',Reach G w h' w' G'→x0w G' en' a'.tmps→a'.tmps.size=a.tmps.size→a'.defers=a.defers→Q .normal a' w')→wpAny P .any ops Q fuel listed a w:=by
 intro fuel
 have done:∀ (listed:Array Bool) {a:Act} {w:World} {M:List Nat} {Pd:List (Nat×Nat)} {G:Tie} {en:Env} {h:Heap},St P gl call base nt quiet ops f late listed a w en' h' M Pd G en h →
   (∀ i k,(i,k)∈Pd→∃ x,[x,i].Sublist M∧x2R quiet (f x) (f i)≠true)→Region.ready .any ops listed=[]→M=[]:=by
  intro listed a w M Pd G en h S hnorm hr
  have hun:∀ i∈M,listed.getD i true≠false:=by
   intro i hi hil
   obtain ⟨m,hmM,hleast⟩:=x65 (M:=M.filter fun i=>!listed.getD i true) (fun e=>by
    have:i∈M.filter fun i=>!listed.getD i true:=List.mem_filter.2 ⟨hi,by rw [hil];rfl⟩
    rw [e] at this
    simp at this)
   simp only [List.mem_filter,Bool.not_eq_true'] at hmM hleast
   obtain ⟨hm,hml⟩:=hmM
   have hms:=((S.mem m).1 hm).1
   have:m∈Region.ready .any ops listed:=by
    rw [mem_ready]
    refine ⟨hml,ops[m],Array.getElem?_eq_getElem hms,fun e he hb=>?_⟩
    have hlt:=hback m _ (Array.getElem?_eq_getElem hms) e he hb
    cases hv:listed.getD e.on false with
    | true=>rfl
    | false =>
     exfalso
     have hel:listed.getD e.on true=false:=by
      have:e.on<listed.size:=by rw [S.lsz];omega
      simp [this] at hv ⊢
      exact hv
     have:=hleast _ ⟨(S.mem e.on).2 ⟨by omega,.inl hel⟩,hel⟩
     omega
   rw [hr] at this
   simp at this
  cases M with
  | nil=>rfl
  | cons i r =>
   exfalso
   have hi:=(S.mem i).1 (by simp)
   rcases hi.2 with h1 | ⟨k,h1⟩
   ·exact hun i (by simp) h1
   ·obtain ⟨x,hx,_⟩:=hnorm i k h1
    have:=x7U S.nodup hx
    simp at this
 induction fuel with
 | zero =>
  intro listed U a w M Pd G en h S hU hUm down hQ
  have hr:Region.ready .any ops listed=[]:=by
   refine List.eq_nil_iff_forall_not_mem.2 fun i hi=>?_
   rw [mem_ready] at hi
   have hlt:=x1U hi.1
   rw [S.lsz] at hlt
   have:=hUm i hlt hi.1
   have hU0:U=[]:=by simpa using hU
   rw [hU0] at this
   simp at this
  obtain ⟨M1,Pd1,G1,en1,h1,S1,hreach,hnorm⟩:=S.normal hq _ (Nat.le_refl _)
  have hM:=done listed S1 hnorm hr
  have hs:=S1.run
  rw [hM] at hs
  simp only [List.map_nil,x1i,Option.some.injEq,Prod.mk.injEq] at hs
  obtain ⟨rfl,rfl⟩:=hs
  exact ⟨hr,hQ a w G1 hreach S1.he rfl rfl⟩
 | succ fuel ih =>
  intro listed U a w M0 Pd0 G0 en0 h0 S0 hU hUm down hQ
  obtain ⟨M,Pd,G,en,h,S,hreach0,hnorm⟩:=S0.normal hq _ (Nat.le_refl _)
  refine ⟨fun hr=>?_,fun i hi=>?_⟩
  ·have hM:=done listed S hnorm hr
   have hs:=S.run
   rw [hM] at hs
   simp only [List.map_nil,x1i,Option.some.injEq,Prod.mk.injEq] at hs
   obtain ⟨rfl,rfl⟩:=hs
   exact hQ a w G hreach0 S.he rfl rfl
  obtain ⟨hil,o,ho,hall⟩:=mem_ready.1 hi
  have hisz:i<ops.size:=by have:=x1U hil;rw [S.lsz] at this;exact this
  have him:=(S.mem i).2 ⟨hisz,.inl hil⟩
  obtain ⟨p,r,rfl⟩:=List.append_of_mem him
  -- what waits is listed
  have hdep:∀ x,depB ops.toList ops.toList.length i x=true→listed.getD x false=true:=fun x hd=>x3G down _ _ _ o ho hall hd
  have hdep2:∀ y k x,(y,k)∈Pd→depB ops.toList ops.toList.length y x=true→listed.getD x false=true:=fun y k x hy hd=>by
   obtain ⟨hyl,_,_⟩:=S.pend y k hy
   have hys:=x3Y hyl
   rw [S.lsz] at hys
   exact x3G down _ _ _ _ (Array.getElem?_eq_getElem hys) (down y _ (Array.getElem?_eq_getElem hys) hyl) hd
  have hpl:∀ x,x∈p++i::r→listed.getD x false=true→∃ k,(x,k)∈Pd:=fun x hx hxl=>by
   rcases ((S.mem x).1 hx).2 with h1 | h1
   ·exact (x4T hxl h1).elim
   ·exact h1
  have hA:∀ x∈p,listed.getD x true=false→x2R quiet (f x) (f i)=true∨(late i=true∧xah (f x) (f i)=true):=by
   intro x hx hxl
   rcases S.pairs x i (x5k hx) with h1 | h1 | h1
   ·exact (x4T (hdep x h1) hxl).elim
   ·exact .inl h1
   ·exact .inr h1
  have hB:∀ x k,(x,k)∈Pd→x∈p→x2R quiet (f x) (f i)=true:=by
   intro x k hxk hxp
   cases hcx:x2R quiet (f x) (f i) with
   | true=>rfl
   | false =>
    exfalso
    -- one whose obstacles are all waiting themselves,the first of them
    have key:∀ (n:Nat) (y ky:Nat),(p++i::r).idxOf y=n→(y,ky)∈Pd→(∀ z,[z,y].Sublist (p++i::r)→x2R quiet (f z) (f y)=true∨∃ kz,(z,kz)∈Pd)→False:=by
     intro n
     induction n using Nat.strongRecOn with
     | _ n ihn =>
      intro y ky hn hy hob
      obtain ⟨z,hz,hzc⟩:=hnorm y ky hy
      rcases hob z hz with h1 | ⟨kz,h1⟩
      ·exact hzc h1
      ·refine ihn _ (by rw [← hn];exact x7U S.nodup hz) z kz rfl h1 fun u hu=>?_
       rcases S.lates z y hz (S.pend z kz h1).2.1 with h2 | h2
       ·exact absurd h2 hzc
       ·rcases h2 u hu with h3 | h3
        ·exact .inl h3
        ·exact .inr (hpl u (hu.subset (by simp)) (hdep2 y ky u hy h3))
    refine key _ x k rfl hxk fun u hu=>?_
    rcases S.lates x i (x5k hxp) (S.pend x k hxk).2.1 with h2 | h2
    ·rw [hcx] at h2;simp at h2
    ·rcases h2 u hu with h3 | h3
     ·exact .inl h3
     ·exact .inr (hpl u (hu.subset (by simp)) (hdep u h3))
  have hsepP:∀ x∈p,memO (f x).dst (f i).slots=false∧memO (f i).dst (f x).slots=false∧∀ d,(f x).dst=some d→(f i).dst≠some d:=by
   intro x hx
   rcases ((S.mem x).1 (by simp [hx])).2 with h1 | ⟨k,h1⟩
   ·rcases hA x hx h1 with h2 | ⟨_,h2⟩
    ·exact x90 h2
    ·exact xaP h2
   ·exact x90 (hB x k h1 hx)
  have hsep:∀ y k,(y,k)∈Pd→memO (f i).dst (f y).slots=false∧memO (f y).dst (f i).slots=false∧(∀ d,(f i).dst=some d→(f y).dst≠some d)∧y≠i:=by
   intro y k hy
   have hyl:=(S.pend y k hy).1
   have hne:y≠i:=fun e=>x4T (e▸hyl) hil
   have hym:y∈p++i::r:=(S.mem y).2 ⟨by have:=x3Y hyl;rw [S.lsz] at this;exact this,.inr ⟨k,hy⟩⟩
   rcases List.mem_append.1 hym with h1 | h1
   ·obtain ⟨q1,q2,q3⟩:=hsepP y h1
    exact ⟨q2,q1,fun d e e2=>q3 d e2 e,hne⟩
   ·rcases List.mem_cons.1 h1 with h1 | h1
    ·exact absurd h1 hne
    ·rcases S.pairs i y (x5A h1) with h2 | h2 | ⟨_,h2⟩
     ·exact (x4T (hdep2 y k i hy h2) hil).elim
     ·obtain ⟨q1,q2,q3⟩:=x90 h2
      exact ⟨q1,q2,q3,hne⟩
     ·obtain ⟨q1,q2,q3⟩:=xaP h2
      exact ⟨q1,q2,q3,hne⟩
  have hUm':∀ x,x<ops.size→(listed.setIfInBounds i true).getD x true=false→x∈U.erase i:=by
   intro x hx hxl
   have hne:i≠x:=by
    rintro rfl
    have:i<listed.size:=by rw [S.lsz];exact hisz
    simp [this] at hxl
   rw [getD_set_ne true hne] at hxl
   exact (List.mem_erase_of_ne (Ne.symm hne)).2 (hUm x hx hxl)
  have hUl:(U.erase i).length≤fuel:=by
   rw [List.length_erase_of_mem (hUm i hisz hil)]
   omega
  have hdown':∀ (j:Nat) (oj:Oper),ops[j]?=some oj→(listed.setIfInBounds i true).getD j false=true→∀ e∈oj.after,Region.binds .any e=true→(listed.setIfInBounds i true).getD e.on false=true:=by
   intro x ox hox hxl e hm hbd
   by_cases hx:i=x
   ·subst hx
    rw [ho] at hox
    injection hox with hox
    subst hox
    exact getD_set_true (hall e hm hbd)
   ·rw [getD_set_ne false hx] at hxl
    exact getD_set_true (down x ox hox hxl e hm hbd)
  have hlsz:(listed.setIfInBounds i true).size=ops.size:=by simpa using S.lsz
  have hni:i ∉ p++r:=by
   have h1:=List.nodup_append.1 S.nodup
   have h2:=List.nodup_cons.1 h1.2.1
   intro hc
   rcases List.mem_append.1 hc with hc | hc
   ·exact h1.2.2 i hc i (by simp) rfl
   ·exact h2.1 hc
  have hfi:=hf i o ho
  by_cases hcm:∀ x∈p,x2R quiet (f x) (f i)=true
  ·-- its turn comes
   have hrun:=S.run
   rw [List.map_append,List.map_cons] at hrun
   have hs2:=xem hq (p:=p.map f) (fun y hy=>by obtain ⟨x,hx,rfl⟩:=List.mem_map.1 hy;exact hcm x hx) hrun
   rw [x0i,Option.bind_eq_some_iff] at hs2
   obtain ⟨⟨v,h1⟩,e1,e2⟩:=hs2
   have hF:∀ k,(G.kp k||Pd.any fun q=>q.2==k)=true→k<w.heap.size∧(∀ c,G.fz k c=none)∧∀ b,G.real h b≠some k:=by
    intro k hk
    rw [Bool.or_eq_true,List.any_eq_true] at hk
    rcases hk with hk | ⟨⟨y,ky⟩,hy,hk⟩
    ·exact S.R.kp k hk
    ·simp only [beq_iff_eq] at hk
     subst hk
     obtain ⟨_,_,_,_,_,_,_,_,_,_,_,_,_,z4,_,z6,_,z8,_⟩:=S.pend y ky hy
     exact ⟨(Array.getElem?_eq_some_iff.1 z4).1,z6,z8⟩
   refine x7P (G:=G.withKp fun k=>G.kp k||Pd.any fun q=>q.2==k) hc ho hfi.1 (fun g cs e=>(S.hgl g cs e).ext0 (Ext0.addKp G _)) (S.he.ext0 (Ext0.addKp G _)) (S.R.withKp hF) S.hb S.hsz e1 fun a' w' G' hreach hb' he' q1 q2=>?_
   have hkp':∀ k,G.kp k=true→G'.kp k=true:=fun k hk=>by
    rw [hreach.ext.kp]
    simp [Tie.withKp,hk]
   have hkpP:∀ y k,(y,k)∈Pd→G'.kp k=true:=fun y k hy=>by
    rw [hreach.ext.kp]
    simp only [Tie.withKp,Bool.or_eq_true,List.any_eq_true,beq_iff_eq]
    exact .inr ⟨(y,k),hy,rfl⟩
   have x2:Ext G (G'.withKp G.kp):=⟨((Ext0.addKp G _).trans hreach.ext.toExt0).trans (Ext0.addKp G' _),rfl⟩
   have hR2:Rel (G'.withKp G.kp) h1 w':=hreach.rel.withKp fun k hk=>hreach.rel.kp k (hkp' k hk)
   have hreach2:Reach G w h1 w' (G'.withKp G.kp):=⟨x2,hR2,hreach.below.bel,fun k hk=>hreach.below.kept k (by simp [Tie.withKp,hk])⟩
   have hsub:(p++r).Sublist (p++i::r):=List.Sublist.append_left (List.sublist_cons_self i r) p
   refine ih (listed.setIfInBounds i true) (U.erase i) (M:=p++r) (Pd:=Pd) (G:=G'.withKp G.kp) (en:=en.put (f i).dst v) (h:=h1) ⟨hlsz,S.nodup.sublist hsub,fun y j hyj=>S.pairs y j (hyj.trans hsub),fun y j hyj hly=>?_,fun y=>?_,fun y ky hy=>?_,S.apart,S.hgl.ext x2,he'.ext0 (Ext0.addKp G' _),hR2,hb',by have:=S.hsz;omega,by rw [List.map_append];exact e2⟩ hUl hUm' hdown' fun a'' w'' G'' hr2 he'' r1 r2=>hQ a'' w'' G'' ((hreach0.trans hreach2).trans hr2) he'' (r1.trans q1) (r2.trans q2)
   ·rcases S.lates y j (hyj.trans hsub) hly with g1 | g1
    ·exact .inl g1
    ·exact .inr fun z hz=>g1 z (hz.trans hsub)
   ·by_cases hyi:i=y
    ·subst hyi
     constructor
     ·intro hc;exact absurd hc hni
     ·rintro ⟨_,hc | ⟨k,hc⟩⟩
      ·have:i<listed.size:=by rw [S.lsz];exact hisz
       simp [this] at hc
      ·exact absurd rfl (hsep i k hc).2.2.2
    ·rw [getD_set_ne true hyi,← S.mem y]
     have:y≠i:=fun e=>hyi e.symm
     simp [this]
   ·obtain ⟨s1,s2,s3⟩:=S.pend y ky hy
    obtain ⟨t1,_,t3,_⟩:=hsep y ky hy
    obtain ⟨k1,k2,k3⟩:=hreach.rel.kp ky (hkpP y ky hy)
    exact ⟨getD_set_true s1,s2,s3.put ⟨t1,t3⟩ x2 (hreach.below.kept ky (by rw [← hreach.ext.kp];exact hkpP y ky hy)) k2 k3⟩
  ·-- its block is laid before its turn
   obtain ⟨x0,hcm⟩:=Classical.not_forall.1 hcm
   obtain ⟨hx0,hcm⟩:=Classical.not_imp.1 hcm
   have hlate:late i=true∧xah (f x0) (f i)=true:=by
    rcases ((S.mem x0).1 (by simp [hx0])).2 with g1 | ⟨k,g1⟩
    ·rcases hA x0 hx0 g1 with g2 | g2
     ·exact absurd g2 hcm
     ·exact g2
    ·exact absurd (hB x0 k g1 hx0) hcm
   obtain ⟨l1,l2,l3,d,l4,l5⟩:=xfL hlate.2
   have hrun:=S.run
   rw [List.map_append,List.map_cons] at hrun
   have hrun2:=hrun
   rw [x6h,Option.bind_eq_some_iff] at hrun2
   obtain ⟨⟨enp,hp⟩,e1,e2⟩:=hrun2
   rw [x0i,xbe l1 l2 l3,xcZ l1] at e2
   obtain ⟨⟨mk,ob⟩,elay⟩:∃ q,x6U enp (f i).op=some q:=by
    cases hq:x6U enp (f i).op with
    | none=>rw [hq] at e2;simp at e2
    | some q=>exact ⟨q,rfl⟩
   have elay':x6U en (f i).op=some (mk,ob):=by
    rw [← elay]
    refine x6T fun t ht=>(x7l e1 t fun x hx=>?_).symm
    obtain ⟨y,hy,rfl⟩:=List.mem_map.1 hx
    exact x2S (hsepP y hy).1 t (by unfold AOper.slots;simp [ht])
   obtain ⟨rv,robj,hexec,h1c,htie⟩:=xjU S.hgl S.he S.R (hfi.2 l1) l1 elay'
   obtain ⟨_,hdst,hdlt,hguard⟩:=x4s (hfi.2 l1)
   rw [l4] at hdst
   unfold wpOp
   simp only [ho]
   have hw:Region.wanted o (yielded ops a.tmps)=true:=by
    rcases hguard with ⟨g1,_⟩ | ⟨j,want,d',_,g2,_⟩
    ·unfold Region.wanted;rw [g1]
    ·rw [l2] at g2;simp at g2
   rw [if_pos hw]
   left
   unfold Oper.wp
   rw [hexec]
   show wpAny P .any ops Q fuel (listed.setIfInBounds i true) (a.put o.dst rv) (w.alloc robj)
   rw [← hdst]
   have hsize:∀ k,k<w.heap.size→(w.alloc robj).heap[k]?=w.heap[k]?:=fun k hk=>x2m w robj k hk
   have hR2:Rel G h (w.alloc robj):=S.R.world (by simp) hsize
   have hreach2:Reach G w h (w.alloc robj) G:=⟨Ext.refl G,hR2,x3n S.R robj⟩
   obtain ⟨p1,p2,p3⟩:=xbH (a:=a) (dst:=some d) S.he (fun c e=>by rw [hdst] at e;exact hdlt c e) S.hsz (v:=.sc rv) (r:=rv) (by simp only [RepV];exact ⟨trivial,h1c⟩)
   refine ih (listed.setIfInBounds i true) (U.erase i) (M:=p++i::r) (Pd:=(i,w.heap.size)::Pd) (G:=G) (en:=en.put (some d) (.sc rv)) (h:=h) ⟨hlsz,S.nodup,S.pairs,S.lates,fun y=>?_,fun y ky hy=>?_,?_,S.hgl,p1,hR2,S.hb,by rw [p2];exact S.hsz,?_⟩ hUl hUm' hdown' fun a'' w'' G'' hr2 he'' r1 r2=>hQ a'' w'' G'' ((hreach0.trans hreach2).trans hr2) he'' (r1.trans p2) (r2.trans p3)
   ·rw [S.mem y]
    by_cases hyi:i=y
    ·subst hyi
     simp [hisz,hil]
    ·have:y≠i:=fun e=>hyi e.symm
     rw [getD_set_ne true hyi]
     simp [this]
   ·rcases List.mem_cons.1 hy with e | hy
    ·injection e with e3 e4
     subst e3;subst e4
     refine ⟨by have:y<listed.size:=by rw [S.lsz];exact hisz
                simp [this],hlate.1,l1,l2,l3,d,rv,mk,ob,robj,l4,?_,?_,x3j w robj,S.R.hb0,S.R.fz_new,S.R.kp_new,fun b e=>by have:=S.R.lt e;omega,htie⟩
     ·show (if d=d then V.sc rv else en d)=.sc rv
      rw [if_pos rfl]
     ·rw [← elay']
      exact x6T fun t ht=>Env.put_other (x2S l5 t (by unfold AOper.slots;simp [ht]))
    ·obtain ⟨s1,s2,s3⟩:=S.pend y ky hy
     obtain ⟨t1,_,t3,_⟩:=hsep y ky hy
     have s3':=s3
     obtain ⟨_,_,_,_,_,_,_,_,_,_,_,z4,_,z6,_,z8,_⟩:=s3'
     exact ⟨getD_set_true s1,s2,s3.put ⟨by rw [← l4];exact t1,fun c e=>t3 c (by rw [l4];exact e)⟩ (Ext.refl G) (hsize ky (Array.getElem?_eq_some_iff.1 z4).1) z6 z8⟩
   ·refine List.Pairwise.cons (fun ⟨y,ky⟩ hy=>?_) S.apart
    obtain ⟨t1,t2,t3,t4⟩:=hsep y ky hy
    obtain ⟨_,_,_,_,_,_,_,_,_,_,_,_,_,z4,_⟩:=S.pend y ky hy
    have:=(Array.getElem?_eq_some_iff.1 z4).1
    exact ⟨t4.symm,by simp only;omega,⟨t1,t3⟩,t2,fun c e e2=>t3 c e2 e⟩
   ·rw [List.map_append,List.map_cons,xbf l4 l5 (fun x hx=>?_)]
    ·exact hrun
    ·obtain ⟨y,hy,rfl⟩:=List.mem_map.1 hx
     obtain ⟨g1,g2,g3⟩:=hsepP y hy
     exact ⟨fun e=>g3 d e l4,by rw [← l4];exact g2⟩
end
end
end Go.Am
