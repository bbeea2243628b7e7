/- The abstract machine and what is proved in it, part 2. -/
import Derived.Test.YtaflpfhmokcimaaGreatDoorAm1
import Derived.Laws.StructEq
import Derived.ChangeKeysEq
import Derived.Laws.IdiomStrings
import Derived.Laws.Tables
import Derived.Laws.MakeOwn
import Derived.Lib.Builder
import Derived.Lib.UnsafeStr
import Derived.LaidEql
set_option linter.unusedVariables false
set_option linter.unusedSimpArgs false
namespace Go.Am
section
open Go.RowKit (Below)
theorem xbp (w:World) (k B:Nat) (rs:Array Value) (h:B≤k):Below B w (w.setRow k rs) :=
 ⟨rfl,rfl,rfl,by simp,fun c hc=>setRow_other w k c rs (by omega)⟩
theorem xcl (w:World) (B:Nat) (o:Go.Obj) (h:B≤w.heap.size):Below B w (w.alloc o):=(Below.refl B w).alloc h o
theorem x87 (w:World) (B:Nat) (o:Go.Obj) (h:B≤w.heap.size):Below B w (w.drew.alloc o):=((Below.refl B w).drew).alloc h o
theorem x2m (w:World) (o:Go.Obj) (k:Nat) (h:k<w.heap.size):(w.alloc o).heap[k]?=w.heap[k]?:=by
 show (w.heap.push o)[k]?=_
 rw [Array.getElem?_push,if_neg (by omega)]
theorem x3j (w:World) (o:Go.Obj):(w.alloc o).heap[w.heap.size]?=some o:=by
 show (w.heap.push o)[w.heap.size]?=_
 simp
theorem x2g (b o n:Nat):(⟨b,o,none⟩:Addr).add n=⟨b,o+n,none⟩:=by
 unfold Addr.add
 split<;>simp_all
theorem Rel.put {G G':Tie} {h h':Heap} {w w':World} (R:Rel G h w) (x:Ext G G') (b k:Nat)
  (hx:∀ c,c≠b→h'[c]?=h[c]?) (hn:G'.n=h'.length)
  (hfz:G'.fz=G.fz) (hbx:∀ c,c≠b→G'.bx c=G.bx c) (hrw:∀ c,c≠b→G'.rw c=G.rw c)
  (hk:∀ k',G'.real h' b=some k'→k'=k) (hlow:G.b0≤k) (hfree:∀ o,G.fz k o=none) (hkp:G.kp k=false) (hown:∀ c,c≠b→G.real h c≠some k)
  (hs:w.heap.size≤w'.heap.size) (hw:∀ c,c≠k→c<w.heap.size→w'.heap[c]?=w.heap[c]?)
  (hbox:∀ t cs,h'[b]?=some (.box t cs)→cs.all zm=true∧∃ rs,w'.heap[G'.bx b]?=some (.cells rs t (0,0))∧RepL G' cs rs.toList)
  (hrow:∀ t sz e rows,h'[b]?=some (.row t sz e rows)→0<sz∧∃ L rs,G'.rw b=some L∧L.e=e∧L.sz=sz∧(rows.length≤L.cp∧rows.length=L.vis) ∧
   w'.heap[L.blk]?=some (.cells rs t (0,0))∧rs.size=L.cp*sz∧x2A G' sz rs rows)
  (hmp:∀ es,h'[b]?=some (.mmap es)→∃ l clock,w'.heap[G'.bx b]?=some (.map l clock)∧RepM G' es l.toList):Rel G' h' w':=by
 have hreal:∀ c,c≠b→G'.real h' c=G.real h c:=by
  intro c hc
  unfold Tie.real
  rw [hx c hc,hbx c hc,hrw c hc]
 refine ⟨hn,?_,?_,?_,?_,?_,?_,?_,?_⟩
 ·intro c o v hv
  rw [hfz] at hv
  have:=R.fz c o v hv
  have hc:c<w.heap.size:=by
   unfold World.cell? at this
   rcases Nat.lt_or_ge c w.heap.size with hb | hb
   ·exact hb
   ·simp [Array.getElem?_eq_none hb] at this
  have hck:c≠k:=by
   intro e
   subst e
   rw [hfree o] at hv
   simp at hv
  unfold World.cell? at this ⊢
  rwa [hw c hck hc]
 ·intro c t cs e
  by_cases hc:c=b
  ·subst hc;exact hbox t cs e
  ·rw [hx c hc] at e
   obtain ⟨h1,rs,h2,h3⟩:=R.box c t cs e
   have hne:G.bx c≠k:=by
    intro ek
    apply hown c hc
    unfold Tie.real
    rw [e,ek]
   refine ⟨h1,rs,?_,h3.ext x⟩
   rw [hbx c hc,hw _ hne (Array.getElem?_eq_some_iff.1 h2).1]
   exact h2
 ·intro c t sz e rows eq
  by_cases hc:c=b
  ·subst hc;exact hrow t sz e rows eq
  ·rw [hx c hc] at eq
   obtain ⟨h0,L,rs,h1,h2,h3,h4,h5,h6,h7⟩:=R.row c t sz e rows eq
   have hne:L.blk≠k:=by
    intro ek
    apply hown c hc
    unfold Tie.real
    simp [eq,h1,ek]
   refine ⟨h0,L,rs,?_,h2,h3,h4,?_,h6,h7.ext x⟩
   ·rw [hrw c hc];exact h1
   ·rw [hw _ hne (Array.getElem?_eq_some_iff.1 h5).1];exact h5
 ·intro c es e
  by_cases hc:c=b
  ·subst hc;exact hmp es e
  ·rw [hx c hc] at e
   obtain ⟨l,clock,h1,h2⟩:=R.mp c es e
   have hne:G.bx c≠k:=by
    intro ek
    apply hown c hc
    unfold Tie.real
    rw [e,ek]
   refine ⟨l,clock,?_,h2.ext x⟩
   rw [hbx c hc,hw _ hne (Array.getElem?_eq_some_iff.1 h1).1]
   exact h1
 ·intro c k' hk'
  by_cases hc:c=b
  ·subst hc
   rw [hk k' hk',x.b0,hfz]
   exact ⟨hlow,hfree⟩
  ·rw [hreal c hc] at hk'
   rw [x.b0,hfz]
   exact R.low c k' hk'
 ·intro c c' k' h1 h2
  by_cases hc:c=b
  ·by_cases hc':c'=b
   ·rw [hc,hc']
   ·subst hc
    rw [hreal c' hc'] at h2
    exact absurd (hk k' h1▸h2) (hown c' hc')
  ·by_cases hc':c'=b
   ·subst hc'
    rw [hreal c hc] at h1
    exact absurd (hk k' h2▸h1) (hown c hc)
   ·rw [hreal c hc] at h1
    rw [hreal c' hc'] at h2
    exact R.inj c c' k' h1 h2
 ·rw [x.b0]
  exact Nat.le_trans R.hb0 hs
 ·intro c hc
  rw [x.kp] at hc
  obtain ⟨k1,k2,k3⟩:=R.kp c hc
  refine ⟨Nat.lt_of_lt_of_le k1 hs,by rw [hfz];exact k2,fun c' e=>?_⟩
  by_cases hc':c'=b
  ·subst hc'
   rw [hk c e,hkp] at hc
   exact absurd hc (by simp)
  ·rw [hreal c' hc'] at e
   exact k3 c' e
theorem Rel.real_lt {G:Tie} {h:Heap} {b k:Nat} (hk:G.real h b=some k):b<h.length:=by
 unfold Tie.real at hk
 rcases Nat.lt_or_ge b h.length with hb | hb
 ·exact hb
 ·simp [List.getElem?_eq_none hb] at hk
theorem x4H {G:Tie} {h:Heap} {w:World} (R:Rel G h w) {b k:Nat} (hk:G.real h b=some k) (rs:Array Value):Bel G w (w.setRow k rs) :=
 ⟨xbp w k G.b0 rs (R.low b k hk).1,fun c hc=>setRow_other w k c rs (fun e=>by rw [e,R.kp_of hk] at hc;exact absurd hc (by simp))⟩
theorem x3n {G:Tie} {h:Heap} {w:World} (R:Rel G h w) (o:Go.Obj):Bel G w (w.alloc o):=⟨xcl w G.b0 o R.hb0,fun c hc=>x2m w o c (R.kp c hc).1⟩
theorem x4n {G:Tie} {h:Heap} {w:World} (R:Rel G h w) (o:Go.Obj):Bel G w (w.drew.alloc o):=⟨x87 w G.b0 o R.hb0,fun c hc=>x2m w.drew o c (R.kp c hc).1⟩
theorem Rel.fz_new {G:Tie} {h:Heap} {w:World} (R:Rel G h w) (o:Nat):G.fz w.heap.size o=none:=by
 cases e:G.fz w.heap.size o with
 | none=>rfl
 | some v =>
  have:=R.fz _ _ _ e
  unfold World.cell? at this
  simp at this
def Tie.newBox (G:Tie) (k:Nat):Tie:={ G with n:=G.n+1,bx:=fun c=>if c=G.n then k else G.bx c }
def Tie.newRow (G:Tie) (L:RowLoc):Tie:={ G with n:=G.n+1,rw:=fun c=>if c=G.n then some L else G.rw c }
def Tie.setRow (G:Tie) (b:Nat) (L:RowLoc):Tie:={ G with rw:=fun c=>if c=b then some L else G.rw c }
theorem Ext.newBox (G:Tie) (k:Nat):Ext G (G.newBox k) where
 fz _ _ _ h:=h
 n:=Nat.le_succ _
 bx b hb:=by simp only [Tie.newBox];rw [if_neg (by omega)]
 rw _ _ L h:=⟨L,h,Nat.le_refl _,fun _=>rfl⟩
 b0:=rfl
 kp:=rfl
theorem Ext.newRow (G:Tie) (k:RowLoc):Ext G (G.newRow k) where
 fz _ _ _ h:=h
 n:=Nat.le_succ _
 bx _ _:=rfl
 rw b hb L h:=by
  simp only [Tie.newRow] at h
  rw [if_neg (by omega)] at h
  exact ⟨L,h,Nat.le_refl _,fun _=>rfl⟩
 b0:=rfl
 kp:=rfl
theorem Ext.setRow (G:Tie) (b:Nat) (L L':RowLoc) (hb:G.rw b=some L) (he:L.e≤L'.e) (hq:L.e=L'.e→L'=L):Ext G (G.setRow b L') where
 fz _ _ _ h:=h
 n:=Nat.le_refl _
 bx _ _:=rfl
 rw c hc M h:=by
  simp only [Tie.setRow] at h
  by_cases e:c=b
  ·subst e
   rw [if_pos rfl] at h
   injection h with h
   subst h
   exact ⟨L,hb,he,hq⟩
  ·rw [if_neg e] at h
   exact ⟨M,h,Nat.le_refl _,fun _=>rfl⟩
 b0:=rfl
 kp:=rfl
theorem Rel.newBox {G:Tie} {h:Heap} {w:World} (R:Rel G h w) {cs:List V} {rs:Array Value} (ty:TypeId) (h1:cs.all zm=true) (hr:RepL G cs rs.toList) :
  Rel (G.newBox w.heap.size) (h++[.box ty cs]) (w.alloc (.cells rs ty (0,0))):=by
 have x:=Ext.newBox G w.heap.size
 refine R.put x G.n w.heap.size ?_ ?_ rfl ?_ (fun _ _=>rfl) ?_ R.hb0 R.fz_new R.kp_new ?_ ?_ ?_ ?_ ?_ (fun es e=>by rw [R.n,List.getElem?_append_right (Nat.le_refl _)] at e;simp at e)
 ·intro c hc
  rw [R.n] at hc
  rcases Nat.lt_or_ge c h.length with hl | hl
  ·rw [List.getElem?_append_left hl]
  ·rw [List.getElem?_eq_none hl,List.getElem?_eq_none (by simp;omega)]
 ·simp [Tie.newBox,R.n]
 ·intro c hc
  simp only [Tie.newBox]
  rw [if_neg hc]
 ·intro k' hk'
  unfold Tie.real at hk'
  rw [R.n,List.getElem?_append_right (Nat.le_refl _)] at hk'
  simp [Tie.newBox,R.n] at hk'
  omega
 ·intro c hc e
  have:=R.lt e
  omega
 ·simp
 ·intro c hc hl
  exact x2m w _ c hl
 ·intro t' cs' e
  rw [R.n,List.getElem?_append_right (Nat.le_refl _)] at e
  simp at e
  obtain ⟨rfl,rfl⟩:=e
  refine ⟨h1,rs,?_,hr.ext x⟩
  simp only [Tie.newBox,if_true]
  exact x3j w _
 ·intro t sz e rows eq
  rw [R.n,List.getElem?_append_right (Nat.le_refl _)] at eq
  simp at eq
theorem Rel.newRow {G:Tie} {h:Heap} {w:World} (R:Rel G h w) {sz cp:Nat} {rows:List (List V)} {rs:Array Value} (ty:TypeId) (hsz:0<sz) (hcp:rows.length≤cp)
  (hs:rs.size=cp*sz) (hr:x2A G sz rs rows) :
  Rel (G.newRow ⟨0,sz,w.heap.size,cp,rows.length⟩) (h++[.row ty sz 0 rows]) (w.alloc (.cells rs ty (0,0))):=by
 have x:=Ext.newRow G ⟨0,sz,w.heap.size,cp,rows.length⟩
 refine R.put x G.n w.heap.size ?_ ?_ rfl (fun _ _=>rfl) ?_ ?_ R.hb0 R.fz_new R.kp_new ?_ ?_ ?_ ?_ ?_ (fun es e=>by rw [R.n,List.getElem?_append_right (Nat.le_refl _)] at e;simp at e)
 ·intro c hc
  rw [R.n] at hc
  rcases Nat.lt_or_ge c h.length with hl | hl
  ·rw [List.getElem?_append_left hl]
  ·rw [List.getElem?_eq_none hl,List.getElem?_eq_none (by simp;omega)]
 ·simp [Tie.newRow,R.n]
 ·intro c hc
  simp only [Tie.newRow]
  rw [if_neg hc]
 ·intro k' hk'
  unfold Tie.real at hk'
  rw [R.n,List.getElem?_append_right (Nat.le_refl _)] at hk'
  simp [Tie.newRow,R.n] at hk'
  omega
 ·intro c hc e
  have:=R.lt e
  omega
 ·simp
 ·intro c hc hl
  exact x2m w _ c hl
 ·intro t' cs' e
  rw [R.n,List.getElem?_append_right (Nat.le_refl _)] at e
  simp at e
 ·intro t' sz' e rows' eq
  rw [R.n,List.getElem?_append_right (Nat.le_refl _)] at eq
  simp at eq
  obtain ⟨rfl,rfl,rfl,rfl⟩:=eq
  refine ⟨hsz,⟨0,sz,w.heap.size,cp,rows.length⟩,rs,?_,rfl,rfl,⟨hcp,rfl⟩,?_,hs,hr.ext x⟩
  ·simp [Tie.newRow]
  ·exact x3j w _
theorem Rel.setBox {G:Tie} {h:Heap} {w:World} (R:Rel G h w) {b:Nat} {cs cs':List V} {rs rs':Array Value} {ty:TypeId} (hb:h[b]?=some (.box ty cs))
  (hw:w.heap[G.bx b]?=some (.cells rs ty (0,0))) (h1:cs'.all zm=true) (hr:RepL G cs' rs'.toList):Rel G (h.set b (.box ty cs')) (w.setRow (G.bx b) rs'):=by
 have hreal:G.real h b=some (G.bx b):=by unfold Tie.real;rw [hb]
 have hlt:b<h.length:=Rel.real_lt hreal
 refine R.put (Ext.refl G) b (G.bx b) ?_ ?_ rfl (fun _ _=>rfl) (fun _ _=>rfl) ?_ (R.low b _ hreal).1 (R.low b _ hreal).2 (R.kp_of hreal) ?_ ?_ ?_ ?_ ?_ (fun es e=>by rw [List.getElem?_set_self hlt] at e;simp at e)
 ·intro c hc
  rw [List.getElem?_set_ne (by omega)]
 ·simp [R.n]
 ·intro k' hk'
  unfold Tie.real at hk'
  rw [List.getElem?_set_self hlt] at hk'
  simpa using hk'.symm
 ·intro c hc e
  exact hc (R.inj c b _ e hreal)
 ·simp [World.setRow]
 ·intro c hc _
  exact setRow_other w _ _ _ hc
 ·intro t' cs'' e
  rw [List.getElem?_set_self hlt] at e
  simp at e
  obtain ⟨rfl,rfl⟩:=e
  exact ⟨h1,rs',setRow_heap w _ _ _ _ _ hw,hr⟩
 ·intro t sz e rows eq
  rw [List.getElem?_set_self hlt] at eq
  simp at eq
theorem Rel.newMap {G:Tie} {h:Heap} {w:World} (R:Rel G h w):Rel (G.newBox w.heap.size) (h++[.mmap []]) (w.alloc (.map #[] 0)):=by
 have x:=Ext.newBox G w.heap.size
 refine R.put x G.n w.heap.size ?_ ?_ rfl ?_ (fun _ _=>rfl) ?_ R.hb0 R.fz_new R.kp_new ?_ ?_ ?_ (fun t cs e=>by rw [R.n,List.getElem?_append_right (Nat.le_refl _)] at e;simp at e) (fun t sz e rows eq=>by rw [R.n,List.getElem?_append_right (Nat.le_refl _)] at eq;simp at eq) ?_
 ·intro c hc
  rw [R.n] at hc
  rcases Nat.lt_or_ge c h.length with hl | hl
  ·rw [List.getElem?_append_left hl]
  ·rw [List.getElem?_eq_none hl,List.getElem?_eq_none (by simp;omega)]
 ·simp [Tie.newBox,R.n]
 ·intro c hc
  simp only [Tie.newBox]
  rw [if_neg hc]
 ·intro k' hk'
  unfold Tie.real at hk'
  rw [R.n,List.getElem?_append_right (Nat.le_refl _)] at hk'
  simp [Tie.newBox,R.n] at hk'
  omega
 ·intro c hc e
  have:=R.lt e
  omega
 ·simp
 ·intro c hc hl
  exact x2m w _ c hl
 ·intro es e
  rw [R.n,List.getElem?_append_right (Nat.le_refl _)] at e
  simp at e
  subst e
  refine ⟨#[],0,?_,rfl⟩
  simp only [Tie.newBox,if_true]
  exact x3j w _
theorem Rel.setMap {G:Tie} {h:Heap} {w w':World} (R:Rel G h w) {b:Nat} {es es':List (Value×V)} {l:Array MapEntry} {clock:Nat} (hb:h[b]?=some (.mmap es)) (hs:w.heap.size≤w'.heap.size) (hw:∀ c,c≠G.bx b→c<w.heap.size→w'.heap[c]?=w.heap[c]?)
  (hw':w'.heap[G.bx b]?=some (.map l clock)) (hr:RepM G es' l.toList):Rel G (h.set b (.mmap es')) w':=by
 have hreal:G.real h b=some (G.bx b):=by unfold Tie.real;rw [hb]
 have hlt:b<h.length:=Rel.real_lt hreal
 refine R.put (Ext.refl G) b (G.bx b) ?_ ?_ rfl (fun _ _=>rfl) (fun _ _=>rfl) ?_ (R.low b _ hreal).1 (R.low b _ hreal).2 (R.kp_of hreal) ?_ hs hw (fun t cs e=>by rw [List.getElem?_set_self hlt] at e;simp at e) (fun t sz e rows eq=>by rw [List.getElem?_set_self hlt] at eq;simp at eq) ?_
 ·intro c hc
  rw [List.getElem?_set_ne (by omega)]
 ·simp [R.n]
 ·intro k' hk'
  unfold Tie.real at hk'
  rw [List.getElem?_set_self hlt] at hk'
  simpa using hk'.symm
 ·intro c hc e
  exact hc (R.inj c b _ e hreal)
 ·intro es2 e
  rw [List.getElem?_set_self hlt] at e
  simp at e
  subst e
  exact ⟨l,clock,hw',hr⟩
theorem Rel.setRowAt {G:Tie} {h:Heap} {w w':World} (R:Rel G h w) {b:Nat} {sz e e':Nat} {rows rows':List (List V)} {L L':RowLoc} {rs':Array Value} {ty:TypeId}
  (hb:h[b]?=some (.row ty sz e rows)) (hL:G.rw b=some L) (he:L.e≤L'.e) (hq:L.e=L'.e→L'=L) (hLe:L'.e=e') (hLs:L'.sz=sz) (hcp:rows'.length≤L'.cp∧rows'.length=L'.vis)
  (hblk:L'.blk=L.blk∨L'.blk=w.heap.size) (hs:w.heap.size≤w'.heap.size) (hw:∀ c,c≠L'.blk→c<w.heap.size→w'.heap[c]?=w.heap[c]?)
  (hw':w'.heap[L'.blk]?=some (.cells rs' ty (0,0))) (hsz':rs'.size=L'.cp*sz) (hr:x2A G sz rs' rows') :
  Rel (G.setRow b L') (h.set b (.row ty sz e' rows')) w':=by
 have x:=Ext.setRow G b L L' hL he hq
 have hreal:G.real h b=some L.blk:=by unfold Tie.real;rw [hb];simp [hL]
 have hlt:b<h.length:=Rel.real_lt hreal
 have hpos:=(R.row b ty sz e rows hb).1
 refine R.put x b L'.blk ?_ ?_ rfl (fun _ _=>rfl) ?_ ?_ ?_ ?_ (hblk.elim (fun e1=>e1▸R.kp_of hreal) (fun e1=>e1▸R.kp_new)) ?_ hs hw ?_ ?_ (fun es e=>by rw [List.getElem?_set_self hlt] at e;simp at e)
 ·intro c hc
  rw [List.getElem?_set_ne (by omega)]
 ·simp [R.n,Tie.setRow]
 ·intro c hc
  simp only [Tie.setRow]
  rw [if_neg hc]
 ·intro k' hk'
  unfold Tie.real at hk'
  rw [List.getElem?_set_self hlt] at hk'
  simpa [Tie.setRow] using hk'.symm
 ·rcases hblk with e1 | e1
  ·rw [e1];exact (R.low b _ hreal).1
  ·rw [e1];exact R.hb0
 ·rcases hblk with e1 | e1
  ·rw [e1];exact (R.low b _ hreal).2
  ·rw [e1];exact R.fz_new
 ·intro c hc ec
  rcases hblk with e1 | e1
  ·rw [e1] at ec
   exact hc (R.inj c b _ ec hreal)
  ·have:=R.lt ec
   omega
 ·intro t' cs'' ec
  rw [List.getElem?_set_self hlt] at ec
  simp at ec
 ·intro t1 sz1 e1 rows1 eq
  rw [List.getElem?_set_self hlt] at eq
  simp at eq
  obtain ⟨rfl,rfl,rfl,rfl⟩:=eq
  exact ⟨hpos,L',rs',by simp [Tie.setRow],hLe,hLs,hcp,hw',hsz',hr.ext x⟩
theorem Tie.setRow_same {G:Tie} {b:Nat} {L:RowLoc} (h:G.rw b=some L):G.setRow b L=G:=by
 unfold Tie.setRow
 congr
 funext c
 by_cases e:c=b
 ·rw [if_pos e,e,h]
 ·rw [if_neg e]
def x8d (h:Heap) (n:Nat):V→Option (List V×Nat)
 | .ptr b off=>match h[b]? with
  | some (.box _ cs)=>some (cs,off)
  | _=>none
 | .rptr b e i off=>match rowAt h b e with
  | some (_,rs)=>(rs[i]?).bind fun cs=>if off+n≤cs.length then some (cs,off) else if i=0 then some (rs.flatten,off) else none
  | none=>none
 | .eptr cs off=>some (cs,off)
 | _=>none
theorem xcY (h:Heap) (n:Option Nat) (v:V):zl h n v=(x8d h (n.getD 1) v).bind fun p=>zb n p.1 p.2:=by
 cases v<;>simp only [zl,x8d,Option.bind_none,Option.bind_some]
 ·split<;>simp_all
 ·split
  ·rename_i eq
   simp only [eq,Option.bind_assoc]
   congr 1
   funext cs
   split
   ·rfl
   ·split<;>rfl
  ·rename_i eq
   simp [eq]
theorem Rel.rowAt {G:Tie} {h:Heap} {w:World} (R:Rel G h w) {b e sz:Nat} {rows:List (List V)} (hr:rowAt h b e=some (sz,rows)) :
  ∃ t,h[b]?=some (.row t sz e rows)∧0<sz∧∃ L rs,G.rw b=some L∧L.e=e∧L.sz=sz∧(rows.length≤L.cp∧rows.length=L.vis) ∧
   w.heap[L.blk]?=some (.cells rs t (0,0))∧rs.size=L.cp*sz∧x2A G sz rs rows:=by
 unfold Am.rowAt at hr
 split at hr
 ·rename_i t sz' e' rs' eq
  split at hr
  ·rename_i ee
   simp at hr
   obtain ⟨rfl,rfl⟩:=hr
   subst ee
   exact ⟨t,eq,R.row b _ _ _ _ eq⟩
  ·simp at hr
 ·simp at hr
theorem x3N {w:World} {b o:Nat} {rs:Array Value} {ty:TypeId} {fr:Nat×Nat} (h:w.heap[b]?=some (.cells rs ty fr)):w.cell? ⟨b,o,none⟩=rs[o]?:=by
 unfold World.cell?
 simp [h]
theorem xd6 {G:Tie} {sz:Nat} {rs:Array Value}:∀ {rows:List (List V)} {o:Nat},(∀ (i:Nat) (cs:List V),rows[i]?=some cs→cs.length=sz∧∀ (j:Nat) (c:V),cs[j]?=some c→∃ v,rs[o+i*sz+j]?=some v∧RepV G c v) →
  ∀ (p:Nat) (c:V),rows.flatten[p]?=some c→∃ v,rs[o+p]?=some v∧RepV G c v
 | [],o,h,p,c,hc=>by simp at hc
 | r::rows,o,h,p,c,hc=>by
  obtain ⟨h1,h2⟩:=h 0 r rfl
  rw [List.flatten_cons] at hc
  by_cases hp:p<r.length
  ·rw [List.getElem?_append_left hp] at hc
   simpa using h2 p c hc
  ·rw [List.getElem?_append_right (by omega)] at hc
   have:=xd6 (rows:=rows) (o:=o+sz) (fun i cs hi=>by
    obtain ⟨h3,h4⟩:=h (i+1) cs (by simpa using hi)
    refine ⟨h3,fun j c hj=>?_⟩
    have:=h4 j c hj
    rwa [show o+(i+1)*sz+j=o+sz+i*sz+j by rw [Nat.add_mul];omega] at this) _ _ hc
   rwa [show o+sz+(p-r.length)=o+p by omega] at this
theorem x2A.flat {G:Tie} {sz:Nat} {rs:Array Value} {rows:List (List V)} (hB:x2A G sz rs rows):∀ (p:Nat) (c:V),rows.flatten[p]?=some c→∃ v,rs[p]?=some v∧RepV G c v:=by
 intro p c hc
 have:=xd6 (rs:=rs) (rows:=rows) (o:=0) (fun i cs hi=>⟨(hB i cs hi).1,fun j c hj=>by simpa using (hB i cs hi).2.2 j c hj⟩) p c hc
 simpa using this
theorem xca {G:Tie} {sz:Nat} {rs:Array Value} {rows:List (List V)} (hB:x2A G sz rs rows):rows.flatten.length=rows.length*sz:=by
 have h:∀ l:List (List V),(∀ r∈l,r.length=sz)→l.flatten.length=l.length*sz:=by
  intro l
  induction l with
  | nil=>simp
  | cons r l ih =>
   intro hr
   simp only [List.flatten_cons,List.length_append,List.length_cons]
   rw [ih fun x hx=>hr x (by simp [hx]),hr r (by simp),Nat.add_mul]
   omega
 refine h rows fun r hr=>?_
 obtain ⟨i,hi⟩:=List.getElem?_of_mem hr
 exact (hB i r hi).1
theorem xhW {G:Tie} {sz:Nat} {rs:Array Value} {rows:List (List V)} (hB:x2A G sz rs rows):rows.flatten.all zm=true:=by
 rw [List.all_eq_true]
 intro v hv
 obtain ⟨r,hr,hv⟩:=List.mem_flatten.1 hv
 obtain ⟨i,hi⟩:=List.getElem?_of_mem hr
 exact List.all_eq_true.1 (hB i r hi).2.1 v hv
theorem x6k (sz:Nat) (l:List V):(x3R sz l).length=l.length/sz:=by simp [x3R]
theorem xgy {sz:Nat} {l:List V} {i:Nat} {cs:List V} (h:(x3R sz l)[i]?=some cs):i<l.length/sz∧cs=(l.drop (i*sz)).take sz:=by
 simp only [x3R,List.getElem?_map,Option.map_eq_some_iff] at h
 obtain ⟨k,hk,rfl⟩:=h
 have hkl:i<l.length/sz:=by
  rcases Nat.lt_or_ge i (l.length/sz) with hl | hl
  ·exact hl
  ·rw [List.getElem?_eq_none (by simpa using hl)] at hk
   simp at hk
 rw [List.getElem?_range hkl] at hk
 injection hk with hk
 subst hk
 exact ⟨hkl,rfl⟩
theorem xgx {sz:Nat} {l r:List V} (h:r∈x3R sz l):∀ v∈r,v∈l:=by
 simp only [x3R,List.mem_map] at h
 obtain ⟨i,_,rfl⟩:=h
 exact fun v hv=>List.mem_of_mem_drop (List.mem_of_mem_take hv)
theorem x93 {G:Tie} {sz:Nat} {rs:Array Value} {l:List V} (hpos:0<sz) (h1:l.all zm=true) (h:∀ (p:Nat) (c:V),l[p]?=some c→∃ v,rs[p]?=some v∧RepV G c v):x2A G sz rs (x3R sz l):=by
 intro i cs hi
 obtain ⟨hl,rfl⟩:=xgy hi
 have hroom:i*sz+sz≤l.length:=by
  have h2:(i+1)*sz≤l.length/sz*sz:=Nat.mul_le_mul_right _ hl
  have h3:=Nat.div_mul_le_self l.length sz
  rw [Nat.add_mul] at h2
  omega
 refine ⟨by simp;omega,?_,fun j c hj=>?_⟩
 ·rw [List.all_eq_true] at h1 ⊢
  exact fun v hv=>h1 v (List.mem_of_mem_drop (List.mem_of_mem_take hv))
 ·rw [List.getElem?_take] at hj
  split at hj
  ·rw [List.getElem?_drop] at hj
   exact h _ _ hj
  ·simp at hj
theorem Rel.cells {G:Tie} {h:Heap} {w:World} (R:Rel G h w) {v:V} {r:Value} {cs:List V} {off n:Nat} (hp:x8d h n v=some (cs,off)) (hv:RepV G v r) :
  ∃ b o,r=.pointer (some ⟨b,o,none⟩)∧∀ j c,cs[off+j]?=some c→∃ rv,w.cell? ⟨b,o+j,none⟩=some rv∧RepV G c rv:=by
 cases v<;>simp only [x8d] at hp
 case ptr b' off' =>
  simp only [RepV] at hv
  split at hp
  ·rename_i cs' eq
   simp at hp
   obtain ⟨rfl,rfl⟩:=hp
   obtain ⟨_,rs,hw,hl⟩:=R.box _ _ _ eq
   refine ⟨_,_,hv.2,fun j c hc=>?_⟩
   obtain ⟨rv,h1,h2⟩:=hl.get hc
   exact ⟨rv,by rw [x3N hw,← Array.getElem?_toList];exact h1,h2⟩
  ·simp at hp
 case rptr b' e i off' =>
  simp only [RepV] at hv
  split at hp
  ·rename_i sz rs' eq
   simp only [Option.bind_eq_some_iff] at hp
   obtain ⟨cs',hc',hp⟩:=hp
   obtain ⟨ty,_,hpos,L,rs,hL,he,hs,hcp,hw,hsz,hB⟩:=R.rowAt eq
   obtain ⟨_,a,rfl,ha⟩:=hv
   have:=(ha L hL).2 he.symm
   subst this
   refine ⟨_,_,rfl,fun j c hc=>?_⟩
   split at hp
   ·simp only [Option.some.injEq,Prod.mk.injEq] at hp
    obtain ⟨rfl,rfl⟩:=hp
    obtain ⟨_,_,h3⟩:=hB i _ hc'
    obtain ⟨rv,h4,h5⟩:=h3 _ _ hc
    exact ⟨rv,by rw [x3N hw,hs,Nat.add_assoc];exact h4,h5⟩
   ·split at hp
    ·rename_i hi0
     subst hi0
     simp only [Option.some.injEq,Prod.mk.injEq] at hp
     obtain ⟨rfl,rfl⟩:=hp
     obtain ⟨rv,h4,h5⟩:=x2A.flat hB _ _ hc
     exact ⟨rv,by rw [x3N hw,Nat.zero_mul,Nat.zero_add];exact h4,h5⟩
    ·simp at hp
  ·simp at hp
 case eptr cs' off' =>
  simp at hp
  obtain ⟨rfl,rfl⟩:=hp
  simp only [RepV] at hv
  obtain ⟨b,o,rfl,_,hF⟩:=hv
  refine ⟨_,_,rfl,fun j c hc=>?_⟩
  obtain ⟨rv,h1,h2⟩:=hF.get hc
  exact ⟨rv,by rw [Nat.add_assoc];exact R.fz _ _ _ h1,h2⟩
 all_goals simp at hp
theorem xgt {G:Tie} {w:World} {b o:Nat} {cs:List V} {off k:Nat} (h:∀ j c,cs[off+j]?=some c→∃ rv,w.cell? ⟨b,o+j,none⟩=some rv∧RepV G c rv) (hk:off+k≤cs.length) :
  ∃ rs:List Value,rs.length=k∧RepL G ((cs.drop off).take k) rs∧∀ j v,rs[j]?=some v→w.cell? ⟨b,o+j,none⟩=some v:=by
 induction k generalizing off o with
 | zero=>exact ⟨[],rfl,by simp [RepL],by simp⟩
 | succ k ih =>
  have hlt:off<cs.length:=by omega
  obtain ⟨rv,h1,h2⟩:=h 0 cs[off] (by simp [hlt])
  obtain ⟨rs,h3,h4,h5⟩:=ih (off:=off+1) (o:=o+1) (fun j c hc=>by
   have:=h (j+1) c (by rwa [show off+(j+1)=off+1+j by omega])
   rwa [show o+(j+1)=o+1+j by omega] at this) (by omega)
  refine ⟨rv::rs,by simp [h3],?_,?_⟩
  ·rw [List.drop_eq_getElem_cons hlt,List.take_succ_cons]
   simp only [RepL]
   exact ⟨rv,rs,rfl,h2,h4⟩
  ·intro j v hv
   cases j with
   | zero=>simp at hv;subst hv;simpa using h1
   | succ j =>
    have:=h5 j v (by simpa using hv)
    rwa [show o+(j+1)=o+1+j by omega]
theorem x8r {P:Program} {t:TypeId} {n:Option Nat} (h:x3U P t=some n) (w:World) :
  (match n with
   | none=>(isAgg t).run P w=.ok false w
   | some k=>(isAgg t).run P w=.ok true w∧(sizeOf t).run P w=.ok k w):=by
 simp only [x3U,aggT,x2P,Option.bind_eq_some_iff,Option.map_eq_some_iff] at h
 obtain ⟨a,⟨d,hd,ha⟩,m,⟨i,hi,hm⟩,hn⟩:=h
 have hsz:(sizeOf t).run P w=.ok m w:=by
  simp [sizeOf,typeInfo,hi,hm]
 split at hn
 ·rename_i ht
  injection hn with hn
  subst hn
  refine ⟨?_,hsz⟩
  simp only [isAgg,Sem.run_bind,run_underlying hd w,Result.andThen]
  cases d<;>simp_all
 ·rename_i ht
  split at hn
  ·injection hn with hn
   subst hn
   simp only [isAgg,Sem.run_bind,run_underlying hd w,Result.andThen]
   cases d<;>simp_all
  ·simp at hn
theorem xcX {P:Program} {G:Tie} {h:Heap} {w:World} (R:Rel G h w) {t:TypeId} {n:Option Nat} (hn:x3U P t=some n) {v x:V} {r:Value}
  (hv:RepV G v r) (hx:zl h n v=some x):∃ rx,(Instr.loadAt t r).run P w=.ok rx w∧RepV G x rx:=by
 rw [xcY,Option.bind_eq_some_iff] at hx
 obtain ⟨⟨cs,off⟩,hp,hc⟩:=hx
 obtain ⟨b,o,rfl,hcell⟩:=R.cells hp hv
 have hs:=x8r hn w
 cases n with
 | none =>
  simp only [zb] at hc
  obtain ⟨rv,h1,h2⟩:=hcell 0 x (by simpa using hc)
  refine ⟨rv,?_,h2⟩
  simp only [Nat.add_zero] at h1
  simp [Instr.loadAt,Instr.sureAddr,loadVar,hs,h1]
 | some k =>
  simp only [zb] at hc
  split at hc
  ·rename_i hle
   injection hc with hc
   subst hc
   obtain ⟨rs,h1,h2,h3⟩:=xgt hcell hle
   refine ⟨.agg rs.toArray,?_,?_⟩
   ·have:=run_loadCells_list (P:=P) w ⟨b,o,none⟩ rs (fun j v hj=>by rw [x2g];exact h3 j v hj)
    rw [h1] at this
    simp [Instr.loadAt,Instr.sureAddr,loadVar,hs.1,hs.2,this]
   ·simp only [RepV]
    exact ⟨_,rfl,by simpa using h2⟩
  ·simp at hc
end
section
open Go.RowKit (Below)
theorem RepL.one {G:Tie}:∀ {cs:List V} {rs:List Value},RepL G cs rs→cs.all zm=true→∀ v∈rs,v.oneCell'=true
 | [],_,h,_,v,hv=>by simp only [RepL] at h;subst h;simp at hv
 | c::cs,_,h,h1,v,hv=>by
  simp only [RepL] at h
  obtain ⟨r,rest,rfl,h2,h3⟩:=h
  simp only [List.all_cons,Bool.and_eq_true] at h1
  simp only [List.mem_cons] at hv
  rcases hv with rfl | hv
  ·exact h2.one h1.1
  ·exact RepL.one h3 h1.2 v hv
theorem x64 {cs new:List V} {off:Nat} (h:off+new.length≤cs.length):(x0E cs off new).length=cs.length:=by
 unfold x0E
 simp
 omega
theorem RepL.put {G:Tie} {cs new:List V} {rs ns:List Value} {off:Nat} (h:RepL G cs rs) (k:RepL G new ns):RepL G (x0E cs off new) (rs.take off++ns++rs.drop (off+ns.length)):=by
 unfold x0E
 rw [k.length]
 exact ((h.take off).append k).append (h.drop _)
theorem xcn {cs new:List V} {off:Nat} {p:V→Bool} (h:cs.all p=true) (k:new.all p=true):(x0E cs off new).all p=true:=by
 unfold x0E
 simp only [List.all_append,Bool.and_eq_true]
 refine ⟨⟨?_,k⟩,?_⟩
 ·rw [List.all_eq_true] at h ⊢
  exact fun x hx=>h x (List.mem_of_mem_take hx)
 ·rw [List.all_eq_true] at h ⊢
  exact fun x hx=>h x (List.mem_of_mem_drop hx)
theorem getElem?_put {α:Type} (cs new:List α) (off j:Nat) (h:off+new.length≤cs.length) :
  (cs.take off++new++cs.drop (off+new.length))[j]?=if off≤j∧j<off+new.length then new[j-off]? else cs[j]?:=by
 have ht:(cs.take off).length=off:=by simp;omega
 by_cases h1:j<off
 ·rw [if_neg (by omega),List.append_assoc,List.getElem?_append_left (by omega),List.getElem?_take_of_lt h1]
 ·by_cases h2:j<off+new.length
  ·rw [if_pos (by omega),List.getElem?_append_left (by simp;omega),List.getElem?_append_right (by omega),ht]
  ·rw [if_neg (by omega),List.getElem?_append_right (by simp;omega)]
   simp only [List.length_append,ht,List.getElem?_drop]
   congr 1
   omega
theorem getElem?_putE {α:Type} (cs new:List α) (off j:Nat) (h:off≤cs.length) :
  (cs.take off++new++cs.drop (off+new.length))[j]?=if off≤j∧j<off+new.length then new[j-off]? else cs[j]?:=by
 have ht:(cs.take off).length=off:=by simp;omega
 by_cases h1:j<off
 ·rw [if_neg (by omega),List.append_assoc,List.getElem?_append_left (by omega),List.getElem?_take_of_lt h1]
 ·by_cases h2:j<off+new.length
  ·rw [if_pos (by omega),List.getElem?_append_left (by simp;omega),List.getElem?_append_right (by omega),ht]
  ·rw [if_neg (by omega),List.getElem?_append_right (by simp;omega)]
   simp only [List.length_append,ht,List.getElem?_drop]
   congr 1
   omega
theorem x2A.put {G:Tie} {sz:Nat} {rs:Array Value} {rows:List (List V)} (hB:x2A G sz rs rows) (_:0<sz) {i off:Nat} {cs new:List V} {ns:List Value}
  (hi:rows[i]?=some cs) (hk:RepL G new ns) (h1:new.all zm=true) (hle:off+new.length≤cs.length) (hsz:i*sz+sz≤rs.size) :
  x2A G sz (rs.toList.take (i*sz+off)++ns++rs.toList.drop (i*sz+off+ns.length)).toArray (rows.set i (x0E cs off new)):=by
 obtain ⟨hl,hone,hcell⟩:=hB i cs hi
 have hlen:i<rows.length:=(List.getElem?_eq_some_iff.1 hi).1
 have hnl:=hk.length
 intro i' cs' hi'
 by_cases e:i'=i
 ·subst e
  rw [List.getElem?_set_self hlen] at hi'
  injection hi' with hi'
  subst hi'
  refine ⟨by rw [x64 hle];exact hl,xcn hone h1,fun j c hc=>?_⟩
  rw [List.getElem?_toArray,getElem?_put _ _ _ _ (by simp;omega)]
  unfold x0E at hc
  rw [getElem?_put _ _ _ _ hle] at hc
  by_cases hj:off≤j∧j<off+new.length
  ·rw [if_pos hj] at hc
   rw [if_pos (by omega)]
   obtain ⟨r,h2,h3⟩:=hk.get hc
   exact ⟨r,by rw [show i'*sz+j-(i'*sz+off)=j-off by omega];exact h2,h3⟩
  ·rw [if_neg hj] at hc
   rw [if_neg (by omega)]
   obtain ⟨v,hv,hr⟩:=hcell j c hc
   exact ⟨v,by rw [Array.getElem?_toList];exact hv,hr⟩
 ·rw [List.getElem?_set_ne (by omega)] at hi'
  obtain ⟨h2,h3,h4⟩:=hB i' cs' hi'
  refine ⟨h2,h3,fun j c hc=>?_⟩
  obtain ⟨v,hv,hr⟩:=h4 j c hc
  refine ⟨v,?_,hr⟩
  have hjlt:j<sz:=by rw [← h2];exact (List.getElem?_eq_some_iff.1 hc).1
  rw [List.getElem?_toArray,getElem?_put _ _ _ _ (by simp;omega),if_neg,Array.getElem?_toList]
  ·exact hv
  ·rcases Nat.lt_or_ge i' i with hlt | hge
   ·have:(i'+1)*sz≤i*sz:=Nat.mul_le_mul_right _ hlt
    rw [Nat.add_mul] at this
    omega
   ·have:(i+1)*sz≤i'*sz:=Nat.mul_le_mul_right _ (by omega)
    rw [Nat.add_mul] at this
    omega
theorem x9Z {sz cp n i:Nat} {rs:Array Value} (hs:rs.size=cp*sz) (hn:n≤cp) (hi:i<n):i*sz+sz≤rs.size:=by
 have:(i+1)*sz≤cp*sz:=Nat.mul_le_mul_right _ (by omega)
 rw [Nat.add_mul] at this
 omega
theorem xf1 {P:Program} {G:Tie} {h h':Heap} {w:World} (R:Rel G h w) {t:TypeId} {n base:Nat} (hn:x2P P t=some n) {a x:V} {ra rx:Value}
  (ha:RepV G a ra) (hx:RepV G x rx) (hst:x0y base h n a x=some h'):∃ w',(Instr.storeAt t ra rx).run P w=.ok () w'∧Rel G h' w'∧Bel G w w':=by
 unfold x0y at hst
 split at hst
 case isFalse=>simp at hst
 rename_i hc
 obtain ⟨hlen,hone⟩:=hc
 have hxu:x≠.undef:=by
  rintro rfl
  simp [V.cells,zm] at hone
 have hcells:=hx.cells hxu
 have hsz:(sizeOf t).run P w=.ok n w:=by
  simp only [x2P,Option.map_eq_some_iff] at hn
  obtain ⟨i,hi,hm⟩:=hn
  simp [sizeOf,typeInfo,hi,hm]
 have hrl:rx.cells.size=n:=by rw [← Array.length_toList,hcells.length,hlen]
 have hro:=hcells.one hone
 split at hst
 ·rename_i b off
  split at hst
  ·rename_i cs eq
   split at hst
   ·rename_i hle
    injection hst with hst
    subst hst
    obtain ⟨hle,_⟩:=hle
    simp only [RepV] at ha
    obtain ⟨hb,rfl⟩:=ha
    obtain ⟨h1,rs,hw,hl⟩:=R.box _ _ _ eq
    have hstore:=run_storeCells_at (P:=P) (G.bx b) off _ rx.cells.toList 0 rs w hw (by
     have:=hl.length
     simp only [Array.length_toList] at this
     simp;omega) hro
    refine ⟨_,?_,R.setBox (cs':=x0E cs off x.cells) (rs':=(rs.toList.take (off+0)++rx.cells.toList++rs.toList.drop (off+0+rx.cells.toList.length)).toArray) eq hw (xcn h1 hone) ?_,x4H R (b:=b) (by unfold Tie.real;rw [eq]) _⟩
    ·simp [Instr.storeAt,Instr.sureAddr,storeVar,hsz,hrl]
     simpa [hrl] using hstore
    ·simpa using hl.put hcells
   ·simp at hst
  ·simp at hst
 ·rename_i b e i off
  split at hst
  ·rename_i sz e' rows eq
   split at hst
   ·rename_i he
    subst he
    split at hst
    ·rename_i cs hi
     split at hst
     ·rename_i hle
      injection hst with hst
      subst hst
      obtain ⟨hle,_⟩:=hle
      simp only [RepV] at ha
      obtain ⟨hb,a,rfl,ha⟩:=ha
      obtain ⟨hpos,L,rs,hL,hLe,hLs,hcp,hw,hs,hB⟩:=R.row _ _ _ _ _ eq
      have:=(ha L hL).2 hLe.symm
      subst this
      have hroom:=x9Z hs hcp.1 ((List.getElem?_eq_some_iff.1 hi).1)
      have hcl:=(hB i cs hi).1
      rw [hLs]
      have hstore:=run_storeCells_at (P:=P) L.blk (i*sz+off) _ rx.cells.toList 0 rs w hw (by
       simp only [Array.length_toList,Nat.add_zero]
       omega) hro
      refine ⟨w.setRow L.blk (rs.toList.take (i*sz+off)++rx.cells.toList++rs.toList.drop (i*sz+off+rx.cells.toList.length)).toArray,?_,?_,x4H R (b:=b) (by unfold Tie.real;rw [eq];simp [hL]) _⟩
      ·simp [Instr.storeAt,Instr.sureAddr,storeVar,hsz,hrl]
       simpa [hrl] using hstore
      ·have:=R.setRowAt (rows':=rows.set i (x0E cs off x.cells)) (L':=L) (w':=w.setRow L.blk (rs.toList.take (i*sz+off)++rx.cells.toList++rs.toList.drop (i*sz+off+rx.cells.toList.length)).toArray)
        (rs':=(rs.toList.take (i*sz+off)++rx.cells.toList++rs.toList.drop (i*sz+off+rx.cells.toList.length)).toArray)
        eq hL (Nat.le_refl _) (fun _=>rfl) hLe hLs (by simpa using hcp) (.inl rfl) (by simp) (fun c hc _=>setRow_other w _ _ _ hc) (setRow_heap w _ _ _ _ _ hw)
        (by simp;omega) (hB.put hpos hi hcells hone (by omega) hroom)
       rwa [Tie.setRow_same hL] at this
     ·split at hst
      ·rename_i hle
       injection hst with hst
       subst hst
       obtain ⟨rfl,hle,_⟩:=hle
       simp only [RepV] at ha
       obtain ⟨hb,a,rfl,ha⟩:=ha
       obtain ⟨hpos,L,rs,hL,hLe,hLs,hcp,hw,hs,hB⟩:=R.row _ _ _ _ _ eq
       have:=(ha L hL).2 hLe.symm
       subst this
       have hfl:=xca hB
       have hmul:rows.length*sz≤L.cp*sz:=Nat.mul_le_mul_right _ hcp.1
       rw [Nat.zero_mul,Nat.zero_add]
       have hstore:=run_storeCells_at (P:=P) L.blk off _ rx.cells.toList 0 rs w hw (by
        simp only [Array.length_toList,Nat.add_zero]
        omega) hro
       refine ⟨w.setRow L.blk (rs.toList.take off++rx.cells.toList++rs.toList.drop (off+rx.cells.toList.length)).toArray,?_,?_,x4H R (b:=b) (by unfold Tie.real;rw [eq];simp [hL]) _⟩
       ·simp [Instr.storeAt,Instr.sureAddr,storeVar,hsz,hrl]
        simpa [hrl] using hstore
       ·have:=R.setRowAt (rows':=x3R sz (x0E rows.flatten off x.cells)) (L':=L) (w':=w.setRow L.blk (rs.toList.take off++rx.cells.toList++rs.toList.drop (off+rx.cells.toList.length)).toArray)
         (rs':=(rs.toList.take off++rx.cells.toList++rs.toList.drop (off+rx.cells.toList.length)).toArray)
         eq hL (Nat.le_refl _) (fun _=>rfl) hLe hLs (by rw [x6k,x64 (by omega),hfl,Nat.mul_div_cancel _ hpos];exact hcp) (.inl rfl) (by simp) (fun c hc _=>setRow_other w _ _ _ hc) (setRow_heap w _ _ _ _ _ hw)
         (by simp;omega) (x93 hpos (xcn (xhW hB) hone) fun p c hc=>?_)
        ·rwa [Tie.setRow_same hL] at this
        ·rw [List.getElem?_toArray,getElem?_put _ _ _ _ (by simp;omega)]
         unfold x0E at hc
         rw [getElem?_put _ _ _ _ (by omega)] at hc
         have hcl:=hcells.length
         split at hc
         ·rename_i hj
          rw [if_pos (by omega)]
          exact hcells.get hc
         ·rename_i hj
          rw [if_neg (by omega),Array.getElem?_toList]
          exact x2A.flat hB p c hc
      ·simp at hst
    ·simp at hst
   ·simp at hst
  ·simp at hst
 ·simp at hst
end
section
theorem RepV.sc_inv {G:Tie} {v:Value} {r:Value} (h:RepV G (.sc v) r):r=v:=by simp only [RepV] at h;exact h.1
theorem RepV.int (G:Tie) (k:IntKind) (n:Int):RepV G (.sc (.int k n)) (.int k n):=by simp [RepV,Value.oneCell']
theorem RepV.bool (G:Tie) (b:Bool):RepV G (.sc (.bool b)) (.bool b):=by simp [RepV,Value.oneCell']
theorem RepV.str (G:Tie) (s:ByteArray):RepV G (.sc (.string s)) (.string s):=by simp [RepV,Value.oneCell']
section
variable {P:Program} {gl:Nat→Option (List V)} {G:Tie} {en:Env} {a:Act} {w:World}
def x0V (G:Tie) (gl:Nat→Option (List V)):Prop:=∀ g cs,gl g=some cs→RepV G (.eptr cs 0) (.pointer (some ⟨g,0,none⟩))
theorem x0V.ext {G G':Tie} {gl:Nat→Option (List V)} (x:Ext G G') (h:x0V G gl):x0V G' gl:=fun g cs e=>(h g cs e).ext x
theorem xcH {v:Value} {x:V} (h:scOf v=some x):RepV G x v:=by
 unfold scOf at h
 split at h<;>first | (simp at h;done) | (injection h with h;subst h;simp [RepV,Value.oneCell'])
theorem xju {v:Value} {x:V} (h:scOf v=some x):x=.sc v:=by
 unfold scOf at h
 split at h<;>first | (simp at h;done) | (injection h with h;exact h.symm)
theorem x3V:∀ {l:List Value} {xs:List V},x7v l=some xs→RepL G xs l
 | [],xs,h=>by simp [x7v] at h;subst h;simp [RepL]
 | v::r,xs,h=>by
  simp only [x7v,Option.bind_eq_some_iff,Option.map_eq_some_iff] at h
  obtain ⟨x,hx,ys,hy,rfl⟩:=h
  simp only [RepL]
  exact ⟨v,r,rfl,xcH hx,x3V hy⟩
theorem x62:∀ {l:List Value} {xs:List V},x7v l=some xs→xs.all zm=true∧xs.all x1h=true
 | [],xs,h=>by simp [x7v] at h;subst h;simp
 | v::r,xs,h=>by
  simp only [x7v,Option.bind_eq_some_iff,Option.map_eq_some_iff] at h
  obtain ⟨x,hx,ys,hy,rfl⟩:=h
  have:=x62 hy
  rw [xju hx]
  simp only [List.all_cons,zm,x1h,Bool.true_and]
  exact this
theorem xar {v:Value} {x:V} (h:xhb v=some x):RepV G x v:=by
 unfold xhb at h
 split at h
 ·simp only [Option.map_eq_some_iff] at h
  obtain ⟨xs,hx,rfl⟩:=h
  simp only [RepV]
  exact ⟨_,rfl,x3V hx⟩
 ·exact xcH h
theorem x0l (hgl:x0V G gl) (he:x0w G en a.tmps) {x:Operand} {y:Opd} (h:opd gl x=some y):RepV G (y.get en) (a.eval x):=by
 cases x<;>simp only [opd] at h
 ·injection h with h;subst h;exact he _
 ·simp only [Option.map_eq_some_iff] at h
  obtain ⟨v,hv,rfl⟩:=h
  exact xar hv
 ·simp only [Option.map_eq_some_iff] at h
  obtain ⟨cs,hv,rfl⟩:=h
  exact hgl _ _ hv
 ·injection h with h;subst h;simp [Opd.get,Act.eval,RepV,RepL]
theorem x7c (hgl:x0V G gl) (he:x0w G en a.tmps):∀ {xs:List Operand} {ys:List Opd},opds gl xs=some ys→RepL G (zh en ys) (xs.map a.eval)
 | [],ys,h=>by simp [opds] at h;subst h;simp [zh,RepL]
 | x::xs,ys,h=>by
  simp only [opds,Option.bind_eq_some_iff,Option.map_eq_some_iff] at h
  obtain ⟨y,hy,zs,hz,rfl⟩:=h
  simp only [zh,List.map_cons,RepL]
  exact ⟨_,_,rfl,x0l hgl he hy,x7c hgl he hz⟩
theorem xkD {op:BinOp} {t:TypeId} {x y v:V} {rx ry:Value} {ox oy:Operand} (hx:RepV G x rx) (hy:RepV G y ry) (h:bin op x y=some v) :
  ∃ r,(do eqGuard op t ox oy rx ry;binOp op t rx ry:Sem Value).run P w=.ok r w∧RepV G v r:=by
 unfold bin at h
 split at h
 ·rename_i k m j n
  obtain rfl:=hx.sc_inv
  obtain rfl:=hy.sc_inv
  have hg:(eqGuard op t ox oy (.int k m) (.int j n)).run P w=.ok () w:=by
   unfold eqGuard
   cases op<;>rfl
  simp only [Sem.run_bind,hg,Result.andThen_ok]
  split at h
  ·split at h
   ·simp at h
   ·rename_i hn
    injection h with h;subst h
    exact ⟨_,by simp only [binOp,Op.shift,if_neg hn];rfl,RepV.int _ _ _⟩
  ·split at h
   ·simp at h
   ·rename_i hn
    injection h with h;subst h
    exact ⟨_,by simp only [binOp,Op.shift,if_neg hn];rfl,RepV.int _ _ _⟩
  ·rename_i h1 h2
   split at h
   ·rename_i hk
    subst hk
    cases op<;>simp only [zzc] at h<;>simp only [binOp,ne_eq,not_true_eq_false,if_false,Op.intArith,Op.intDiv,Op.intBits,Op.intCmp]
    case shl=>exact absurd rfl h1
    case shr=>exact absurd rfl h2
    case quo =>
     split at h
     ·simp at h
     ·rename_i h0;injection h with h;subst h;rw [if_neg h0];exact ⟨_,rfl,RepV.int _ _ _⟩
    case rem =>
     split at h
     ·simp at h
     ·rename_i h0;injection h with h;subst h;rw [if_neg h0];exact ⟨_,rfl,RepV.int _ _ _⟩
    all_goals (injection h with h;subst h;exact ⟨_,rfl,by simp [RepV,Value.oneCell']⟩)
   ·simp at h
 ·rename_i p q
  obtain rfl:=hx.sc_inv
  obtain rfl:=hy.sc_inv
  have hg:(eqGuard op t ox oy (.string p) (.string q)).run P w=.ok () w:=by
   unfold eqGuard
   cases op<;>rfl
  simp only [Sem.run_bind,hg,Result.andThen_ok]
  cases op<;>simp only [zE] at h<;>simp only [binOp,Op.stringOp]
  case add =>
   split at h
   ·rename_i hl
    injection h with h;subst h
    unfold lim at hl
    refine ⟨.string (p++q),?_,RepV.str _ _⟩
    rw [if_neg]
    ·rfl
    ·show ¬ _ > IntKind.i64.max
     have:IntKind.i64.max=9223372036854775807:=by decide
     rw [this]
     omega
   ·simp at h
  all_goals first
   | (simp at h;done)
   | (injection h with h;subst h;exact ⟨_,rfl,by simp [RepV,Value.oneCell']⟩)
 ·simp at h
theorem xes {neg:Bool} {t:TypeId} {p q:Bool} {ox oy:Operand} (ht:P.underlying t=some .bool) :
  (do eqGuard (if neg then .neq else .eql) t ox oy (.bool p) (.bool q);binOp (if neg then .neq else .eql) t (.bool p) (.bool q):Sem Value).run P w=.ok (.bool (if neg then !(p==q) else (p==q))) w:=by
 have hg:(eqGuard (if neg then .neq else .eql) t ox oy (.bool p) (.bool q)).run P w=.ok () w:=by
  unfold eqGuard
  cases neg<;>rfl
 have key:∀ d,(Op.equalIn (d+1) t (.bool p) (.bool q)).run P w=.ok (p==q) w:=by
  intro d
  simp only [Op.equalIn,Sem.run_bind,run_underlying ht w,Result.andThen_ok]
  rfl
 have key':(Op.equal t (.bool p) (.bool q)).run P w=.ok (p==q) w:=key 9999
 simp only [Sem.run_bind,hg,Result.andThen_ok]
 cases neg
 ·simp only [Bool.false_eq_true,if_false]
  unfold binOp
  simp only [Sem.run_bind,key',Result.andThen_ok]
  rfl
 ·simp only [if_true]
  unfold binOp
  simp only [Sem.run_bind,key',Result.andThen_ok]
  rfl
theorem xkT {op:UnOp} {x v:V} {rx:Value} (hx:RepV G x rx) (h:unary op x=some v):∃ r,(Op.unary op rx).run P w=.ok r w∧RepV G v r:=by
 unfold unary at h
 split at h
 ·obtain rfl:=hx.sc_inv
  split at h
  ·injection h with h;subst h;exact ⟨_,rfl,RepV.int _ _ _⟩
  ·injection h with h;subst h;exact ⟨_,rfl,RepV.int _ _ _⟩
  ·simp at h
 ·obtain rfl:=hx.sc_inv
  split at h
  ·injection h with h;subst h;exact ⟨_,rfl,RepV.bool _ _⟩
  ·simp at h
 ·simp at h
theorem xcO {t:TypeId} {n:Option Nat} (hn:x3U P t=some n) {cs:List V} {off:Nat} {v:V} {rs:Array Value} (hc:RepL G cs rs.toList) (h:zb n cs off=some v) :
  ∃ r,(part t rs off).run P w=.ok r w∧RepV G v r:=by
 have hs:=x8r hn w
 cases n with
 | none =>
  simp only [zb] at h
  obtain ⟨r,h1,h2⟩:=hc.get h
  rw [Array.getElem?_toList] at h1
  exact ⟨r,by simp [part,hs,h1],h2⟩
 | some k =>
  simp only [zb] at h
  split at h
  ·rename_i hle
   injection h with h;subst h
   refine ⟨.agg (rs.extract off (off+k)),by simp [part,hs.1,hs.2],?_⟩
   simp only [RepV]
   refine ⟨_,rfl,?_⟩
   have:(rs.extract off (off+k)).toList=(rs.toList.drop off).take k:=by
    simp [List.extract,Nat.add_sub_cancel_left]
   rw [this]
   exact (hc.drop off).take k
  ·simp at h
theorem x3o {x:V} {n:Nat} {rx:Value} (hx:RepV G x rx) (h:zj x=some n):∃ k i,rx=.int k i∧0≤i∧i.toNat=n:=by
 unfold zj at h
 split at h
 ·rename_i k i
  obtain rfl:=hx.sc_inv
  split at h
  ·rename_i h0
   injection h with h
   exact ⟨k,i,rfl,h0,h⟩
  ·simp at h
 ·simp at h
theorem x9n (mx:Bool) (ts:Array TypeId) (ty:TypeId):∀ {xs:List V} {x v:V} {r:Value} {rs:List Value},RepV G x r→RepL G xs rs→x9o mx x xs=some v →
  ∃ q,(rs.foldlM (if mx then Builtin.max2 else Builtin.min2) r:Sem Value).run P w=.ok q w∧RepV G v q
 | [],x,v,r,rs,hx,hs,h=>by
  simp only [RepL] at hs
  subst hs
  simp only [x9o] at h
  injection h with h
  subst h
  exact ⟨r,rfl,hx⟩
 | y::ys,x,v,r,rs,hx,hs,h=>by
  simp only [RepL] at hs
  obtain ⟨q,rest,rfl,hy,hs⟩:=hs
  unfold x9o at h
  split at h
  ·rename_i e;simp at e
  ·rename_i e
   simp only [List.cons.injEq] at e
   obtain ⟨rfl,rfl⟩:=e
   obtain rfl:=hx.sc_inv
   obtain rfl:=hy.sc_inv
   split at h
   ·rename_i hk
    subst hk
    obtain ⟨z,h1,h2⟩:=x9n mx ts ty (RepV.int G _ _) hs h
    refine ⟨z,?_,h2⟩
    rw [List.foldlM_cons,Sem.run_bind]
    cases mx
    ·simpa [Builtin.min2] using h1
    ·simpa [Builtin.max2] using h1
   ·simp at h
  ·simp at h
end
end
section
section
variable {P:Program} {G:Tie} {w:World}
theorem x3f (xs ys:List V):∀ (l m:List (Nat×LK)),x1K xs ys (l++m)=(x1K xs ys l).bind fun a=>(x1K xs ys m).map fun b=>a&&b
 | [],m=>by simp [x1K]
 | o::l,m=>by
  simp only [List.cons_append,x1K]
  split
  ·rw [x3f xs ys l m]
   cases x6J o.2 _ _<;>simp
   cases x1K xs ys l<;>simp
   cases x1K xs ys m<;>simp [Bool.and_assoc]
  ·simp
theorem x5g (xs ys:List V) (o k:Nat):∀ (l:List (Nat×LK)),l.all (fun i=>decide (i.1<k))=true →
  x1K xs ys (l.map fun i=>(o+i.1,i.2))=x1K ((xs.drop o).take k) ((ys.drop o).take k) l
 | [],_=>by simp [x1K]
 | p::l,h=>by
  simp only [List.all_cons,Bool.and_eq_true,decide_eq_true_eq] at h
  have hx:∀ zs:List V,((zs.drop o).take k)[p.1]?=zs[o+p.1]?:=by
   intro zs
   rw [List.getElem?_take_of_lt h.1,List.getElem?_drop]
  simp only [List.map_cons,x1K,hx]
  rw [x5g xs ys o k l h.2]
theorem RepV.take {G:Tie} {xs:List V} {rs:Array Value} (h:RepL G xs rs.toList) (o k:Nat):RepV G (.agg ((xs.drop o).take k)) (.agg (rs.extract o (o+k))):=by
 simp only [RepV]
 refine ⟨_,rfl,?_⟩
 have:(rs.extract o (o+k)).toList=(rs.toList.drop o).take k:=by
  simp [List.extract,Nat.add_sub_cancel_left]
 rw [this]
 exact (h.drop o).take k
theorem x8s {e:TypeId} {n:Option Nat} (h:x3U P e=some n):∃ i,P.info? e=some i:=by
 unfold x3U x2P at h
 simp only [Option.bind_eq_some_iff,Option.map_eq_some_iff] at h
 obtain ⟨_,_,_,⟨i,hi,_⟩,_⟩:=h
 exact ⟨i,hi⟩
theorem xdc (w:World):∀ (k d:Nat) {t:TypeId} {ls:List (Nat×LK)} {n:Option Nat} {xs ys:List V} {rxs rys:Array Value} {res:Bool} {o:Nat},k≤d→x3i P k t=some ls→x3U P t=some n →
  ls.all (fun i=>decide (i.1<n.getD 1))=true →
  RepL G xs rxs.toList→RepL G ys rys.toList→x1K xs ys (ls.map fun i=>(o+i.1,i.2))=some res →
  ∃ a b,(part t rxs o).run P w=.ok a w∧(part t rys o).run P w=.ok b w∧(Op.equalIn d t a b).run P w=.ok res w
 | 0,_,_,_,_,_,_,_,_,_,_,_,h,_,_,_,_,_=>by simp [x3i] at h
 | k+1,d,t,ls,n,xs,ys,rxs,rys,res,o,hd,h,hn,hall,hx,hy,he=>by
  obtain ⟨d,rfl⟩:∃ m,d=m+1:=⟨d-1,by omega⟩
  have hs:=x8r hn w
  have hscal:∀ (kd:LK),ls=[(0,kd)]→n=none→∃ x y rx ry,(part t rxs o).run P w=.ok rx w∧(part t rys o).run P w=.ok ry w∧RepV G x rx∧RepV G y ry∧x6J kd x y=some res:=by
   rintro kd rfl rfl
   simp only [List.map_cons,List.map_nil,Nat.add_zero,x1K] at he
   split at he
   ·rename_i x y ex ey
    obtain ⟨rx,h1,h2⟩:=hx.get ex
    obtain ⟨ry,h3,h4⟩:=hy.get ey
    rw [Array.getElem?_toList] at h1 h3
    refine ⟨x,y,rx,ry,by simp [part,hs,h1],by simp [part,hs,h3],h2,h4,?_⟩
    cases hq:x6J kd x y with
    | none=>simp [hq] at he
    | some q=>simpa [hq] using he
   ·simp at he
  have hnone:∀ {dd:TypeDesc},P.underlying t=some dd→(match dd with | .struct _ | .array _ _=>true | _=>false)=false→n=none:=by
   intro dd hu hf
   unfold x3U aggT at hn
   rw [hu] at hn
   simp only [Option.map_some,Option.bind_some,Option.bind_eq_some_iff] at hn
   obtain ⟨m,_,hm⟩:=hn
   cases dd<;>simp_all
  unfold x3i at h
  split at h
  ·rename_i hu
   injection h with h
   obtain ⟨x,y,rx,ry,h1,h2,h3,h4,h5⟩:=hscal .b h.symm (hnone hu rfl)
   refine ⟨rx,ry,h1,h2,?_⟩
   unfold x6J at h5
   split at h5<;>simp_all
   obtain rfl:=h3.sc_inv
   obtain rfl:=h4.sc_inv
   rw [run_equalIn_bool' w d t _ _ hu]
   simp_all
  ·rename_i kk hu
   injection h with h
   obtain ⟨x,y,rx,ry,h1,h2,h3,h4,h5⟩:=hscal .i h.symm (hnone hu rfl)
   refine ⟨rx,ry,h1,h2,?_⟩
   unfold x6J at h5
   split at h5<;>simp_all
   obtain rfl:=h3.sc_inv
   obtain rfl:=h4.sc_inv
   obtain ⟨rfl,h5⟩:=h5
   rw [run_equalIn_int w d t _ _ _ _ hu]
   simp_all
  ·rename_i hu
   injection h with h
   obtain ⟨x,y,rx,ry,h1,h2,h3,h4,h5⟩:=hscal .s h.symm (hnone hu rfl)
   refine ⟨rx,ry,h1,h2,?_⟩
   unfold x6J at h5
   split at h5<;>simp_all
   obtain rfl:=h3.sc_inv
   obtain rfl:=h4.sc_inv
   rw [run_equalIn_string w d t _ _ hu,← beq_toListBytes]
   simp_all
  ·rename_i fs hu
   split at h
   ·simp at h
   ·rename_i hst
    have hst':P.stoodInHeld t=false:=by simpa using hst
    obtain ⟨m,rfl⟩:∃ m,n=some m:=by
     unfold x3U aggT at hn
     rw [hu] at hn
     simp only [Option.map_some,Option.bind_some,Option.bind_eq_some_iff,if_true] at hn
     obtain ⟨m,_,hm⟩:=hn
     injection hm with hm
     exact ⟨m,hm.symm⟩
    refine ⟨.agg (rxs.extract o (o+m)),.agg (rys.extract o (o+m)),by simp [part,hs.1,hs.2],by simp [part,hs.1,hs.2],?_⟩
    have hfo:P.fieldsOf t=fs:=by unfold Program.fieldsOf;rw [hu]
    rw [run_equalIn_struct w d t _ _ (by rw [hfo];exact hu) hst',hfo]
    rw [x5g xs ys o m ls (by simpa using hall)] at he
    have hX:=RepV.take hx o m
    have hY:=RepV.take hy o m
    simp only [RepV] at hX hY
    obtain ⟨r1,e1,hX⟩:=hX
    obtain ⟨r2,e2,hY⟩:=hY
    injection e1 with e1
    injection e2 with e2
    subst e1
    subst e2
    generalize (xs.drop o).take m=xs' at *
    generalize (ys.drop o).take m=ys' at *
    generalize rxs.extract o (o+m)=rxs' at *
    generalize rys.extract o (o+m)=rys' at *
    clear hall hn hscal hnone hfo hu hs hst hst'
    generalize fs.toList=fl at h
    induction fl generalizing ls res with
    | nil =>
     simp only [x54,Option.some.injEq] at h
     subst h
     simp only [x1K,Option.some.injEq] at he
     subst he
     simp [Op.eqFields]
    | cons f fl ih =>
     unfold x54 at h
     unfold Op.eqFields
     split at h
     ·rename_i hname
      rw [if_neg (by simpa using hname)]
      exact ih _ _ he h
     ·rename_i hname
      rw [if_pos hname]
      simp only [Option.bind_eq_some_iff] at h
      obtain ⟨l,hl,n',hn',h⟩:=h
      split at h
      ·rename_i hal
       simp only [Option.map_eq_some_iff] at h
       obtain ⟨l2,hl2,rfl⟩:=h
       rw [x3f] at he
       simp only [Option.bind_eq_some_iff,Option.map_eq_some_iff] at he
       obtain ⟨q1,hq1,q2,hq2,rfl⟩:=he
       obtain ⟨a,b,ha,hb,hab⟩:=xdc w k d (by omega) hl hn' hal hX hY hq1
       simp only [Sem.run_bind,ha,hb,hab,Result.andThen_ok,Sem.run_ite]
       cases q1
       ·simp
       ·simpa using ih _ _ hq2 hl2
      ·simp at h
  ·rename_i len e hu
   simp only [Option.bind_eq_some_iff] at h
   obtain ⟨l,hl,n',hn',h⟩:=h
   split at h
   ·rename_i hal
    injection h with h
    subst h
    obtain ⟨m,rfl⟩:∃ m,n=some m:=by
     unfold x3U aggT at hn
     rw [hu] at hn
     simp only [Option.map_some,Option.bind_some,Option.bind_eq_some_iff,if_true] at hn
     obtain ⟨m,_,hm⟩:=hn
     injection hm with hm
     exact ⟨m,hm.symm⟩
    obtain ⟨i,hi⟩:=x8s hn'
    refine ⟨.agg (rxs.extract o (o+m)),.agg (rys.extract o (o+m)),by simp [part,hs.1,hs.2],by simp [part,hs.1,hs.2],?_⟩
    rw [run_equalIn_array w d _ _ hu hi]
    rw [x5g xs ys o m _ (by simpa using hall)] at he
    have hX:=RepV.take hx o m
    have hY:=RepV.take hy o m
    simp only [RepV] at hX hY
    obtain ⟨r1,e1,hX⟩:=hX
    obtain ⟨r2,e2,hY⟩:=hY
    injection e1 with e1
    injection e2 with e2
    subst e1
    subst e2
    generalize (xs.drop o).take m=xs' at *
    generalize (ys.drop o).take m=ys' at *
    generalize rxs.extract o (o+m)=rxs' at *
    generalize rys.extract o (o+m)=rys' at *
    clear hall hn hscal hnone hu hs hi
    generalize List.range len=is at he
    induction is generalizing res with
    | nil =>
     simp only [List.flatMap_nil,x1K,Option.some.injEq] at he
     subst he
     simp [Op.eqItems]
    | cons i is ih =>
     rw [List.flatMap_cons,x3f] at he
     simp only [Option.bind_eq_some_iff,Option.map_eq_some_iff] at he
     obtain ⟨q1,hq1,q2,hq2,rfl⟩:=he
     obtain ⟨a,b,ha,hb,hab⟩:=xdc w k d (by omega) hl hn' hal hX hY hq1
     simp only [Op.eqItems,Sem.run_bind,ha,hb,hab,Result.andThen_ok,Sem.run_ite]
     cases q1
     ·simp
     ·simpa using ih _ hq2
   ·simp at h
  ·simp at h
end
end
section
section
variable {P:Program} {G:Tie} {w:World}
def NK.nilV:NK→Value
 | .ptr=>.pointer none
 | .func=>.nilFunc
 | .iface=>.nilIface
 | .map=>.map none
 | .slice=>.slice none 0 0
theorem xjM {t e:TypeId} {x:V} {rx:Value} {b:Bool} (ht:P.underlying t=some (.pointer e)) (hx:RepV G x rx) (hb:isNil .ptr x=some b) (m:Nat) :
  (Op.equalIn (m+1) t rx (.pointer none)).run P w=.ok b w∧(Op.equalIn (m+1) t (.pointer none) rx).run P w=.ok b w:=by
 have key:∀ p:Option Addr,(Op.equalIn (m+1) t (.pointer p) (.pointer none)).run P w=.ok p.isNone w∧(Op.equalIn (m+1) t (.pointer none) (.pointer p)).run P w=.ok p.isNone w:=by
  intro p
  cases p<;>simp only [Op.equalIn,Sem.run_bind,run_underlying ht w,Result.andThen_ok]<;>exact ⟨rfl,rfl⟩
 obtain ⟨p,rfl,rfl⟩:∃ p,rx=.pointer p∧b=p.isNone:=by
  unfold isNil at hb
  split at hb<;>first | (simp at hb;done) | skip
  all_goals (injection hb with hb;subst hb)
  all_goals simp_all only [reduceCtorEq,RepV]
  ·obtain ⟨rfl,_⟩:=hx;exact ⟨none,rfl,rfl⟩
  ·obtain ⟨_,rfl⟩:=hx;exact ⟨_,rfl,rfl⟩
  ·obtain ⟨_,a,rfl,_⟩:=hx;exact ⟨_,rfl,rfl⟩
  ·obtain ⟨_,o,rfl,_⟩:=hx;exact ⟨_,rfl,rfl⟩
 exact key p
theorem xhB {t:TypeId} {ps rs:Array TypeId} {vd:Bool} {x:V} {rx:Value} {b:Bool} (ht:P.underlying t=some (.func ps rs vd)) (hx:RepV G x rx) (hb:isNil .func x=some b) (m:Nat) :
  (Op.equalIn (m+1) t rx .nilFunc).run P w=.ok b w∧(Op.equalIn (m+1) t .nilFunc rx).run P w=.ok b w:=by
 unfold isNil at hb
 split at hb<;>first | (simp at hb;done) | skip
 all_goals (injection hb with hb;subst hb)
 all_goals simp_all only [reduceCtorEq,RepV]
 ·obtain ⟨rfl,_⟩:=hx
  simp only [Op.equalIn,Sem.run_bind,run_underlying ht w,Result.andThen_ok]
  exact ⟨rfl,rfl⟩
 ·obtain ⟨ra,rc,rfl,_⟩:=hx
  simp only [Op.equalIn,Sem.run_bind,run_underlying ht w,Result.andThen_ok]
  exact ⟨rfl,rfl⟩
theorem xfv {t:TypeId} {ms:Array (String×TypeId)} {x:V} {rx:Value} {b:Bool} (ht:P.underlying t=some (.interface ms)) (hx:RepV G x rx) (hb:isNil .iface x=some b) (m:Nat) :
  (Op.equalIn (m+1) t rx .nilIface).run P w=.ok b w∧(Op.equalIn (m+1) t .nilIface rx).run P w=.ok b w:=by
 unfold isNil at hb
 split at hb<;>first | (simp at hb;done) | skip
 all_goals (injection hb with hb;subst hb)
 all_goals simp_all only [reduceCtorEq,RepV]
 ·obtain ⟨rfl,_⟩:=hx
  simp only [Op.equalIn,Sem.run_bind,run_underlying ht w,Result.andThen_ok]
  exact ⟨rfl,rfl⟩
 ·obtain ⟨rv,rfl,_⟩:=hx
  simp only [Op.equalIn,Sem.run_bind,run_underlying ht w,Result.andThen_ok]
  exact ⟨rfl,rfl⟩
theorem xjN {t k e:TypeId} {x:V} {rx:Value} {b:Bool} (ht:P.underlying t=some (.map k e)) (hx:RepV G x rx) (hb:isNil .map x=some b) (m:Nat) :
  (Op.equalIn (m+1) t rx (.map none)).run P w=.ok b w∧(Op.equalIn (m+1) t (.map none) rx).run P w=.ok b w:=by
 unfold isNil at hb
 split at hb<;>first | (simp at hb;done) | skip
 all_goals (injection hb with hb;subst hb)
 all_goals simp_all only [reduceCtorEq,RepV]
 ·obtain ⟨rfl,_⟩:=hx
  simp only [Op.equalIn,Sem.run_bind,run_underlying ht w,Result.andThen_ok]
  exact ⟨rfl,rfl⟩
 ·obtain ⟨_,rfl⟩:=hx
  simp only [Op.equalIn,Sem.run_bind,run_underlying ht w,Result.andThen_ok]
  exact ⟨rfl,rfl⟩
theorem xfu {t e:TypeId} {x:V} {rx:Value} {b:Bool} (ht:P.underlying t=some (.slice e)) (hx:RepV G x rx) (hb:isNil .slice x=some b) (m:Nat) :
  (Op.equalIn (m+1) t rx (.slice none 0 0)).run P w=.ok b w∧(Op.equalIn (m+1) t (.slice none 0 0) rx).run P w=.ok b w:=by
 have key:∀ (p:Option Addr) (l c:Nat),(Op.equalIn (m+1) t (.slice p l c) (.slice none 0 0)).run P w=.ok p.isNone w∧(Op.equalIn (m+1) t (.slice none 0 0) (.slice p l c)).run P w=.ok p.isNone w:=by
  intro p l c
  cases p<;>simp only [Op.equalIn,Sem.run_bind,run_underlying ht w,Result.andThen_ok]<;>exact ⟨rfl,rfl⟩
 obtain ⟨p,l,c,rfl,rfl⟩:∃ p l c,rx=.slice p l c∧b=p.isNone:=by
  unfold isNil at hb
  split at hb<;>first | (simp at hb;done) | skip
  all_goals (injection hb with hb;subst hb)
  all_goals simp_all only [reduceCtorEq,RepV]
  ·obtain ⟨rfl,_⟩:=hx;exact ⟨none,0,0,rfl,rfl⟩
  ·obtain ⟨_,a,c,rfl,_⟩:=hx;exact ⟨_,_,_,rfl,rfl⟩
  ·obtain ⟨a,c,rfl,_,_,_,b,o,ha,_,_⟩:=hx;rw [ha (by simp)];exact ⟨_,_,_,rfl,rfl⟩
 exact key p l c
theorem xb4 {t:TypeId} {d:TypeDesc} {k:NK} {x:V} {rx:Value} {b neg:Bool} (ht:P.underlying t=some d) (hk:nkOf d=some k) (hx:RepV G x rx) (hb:isNil k x=some b)
  (ox oy:Operand) (hc:(∃ v,ox=.const v)∨(∃ v,oy=.const v)) :
  (do eqGuard (if neg then .neq else .eql) t ox oy rx k.nilV;binOp (if neg then .neq else .eql) t rx k.nilV:Sem Value).run P w=.ok (.bool (if neg then !b else b)) w ∧
  (do eqGuard (if neg then .neq else .eql) t ox oy k.nilV rx;binOp (if neg then .neq else .eql) t k.nilV rx:Sem Value).run P w=.ok (.bool (if neg then !b else b)) w:=by
 have hE:(Op.equal t rx k.nilV).run P w=.ok b w∧(Op.equal t k.nilV rx).run P w=.ok b w:=by
  cases d<;>simp only [nkOf,Option.some.injEq,reduceCtorEq] at hk<;>subst hk
  ·exact xjM ht hx hb 9999
  ·exact xfu ht hx hb 9999
  ·exact xjN ht hx hb 9999
  ·exact xhB ht hx hb 9999
  ·exact xfv ht hx hb 9999
 have hshape:(∃ p,rx=.pointer p)∨rx=.nilFunc∨(∃ f a c,rx=.func f a c)∨rx=.nilIface∨(∃ u v,rx=.iface u v)∨(∃ r,rx=.map r)∨(∃ p l c,rx=.slice p l c):=by
  unfold isNil at hb
  split at hb<;>first | (simp at hb;done) | skip
  all_goals simp only [RepV] at hx
  ·exact .inl ⟨_,hx.1⟩
  ·exact .inr (.inl hx.1)
  ·exact .inr (.inr (.inr (.inl hx.1)))
  ·exact .inr (.inr (.inr (.inr (.inr (.inl ⟨_,hx.1⟩)))))
  ·exact .inr (.inr (.inr (.inr (.inr (.inr ⟨_,_,_,hx.1⟩)))))
  ·exact .inl ⟨_,hx.2⟩
  ·obtain ⟨_,a,e,_⟩:=hx;exact .inl ⟨_,e⟩
  ·obtain ⟨_,o,e,_⟩:=hx;exact .inl ⟨_,e⟩
  ·obtain ⟨ra,rc,e,_⟩:=hx;exact .inr (.inr (.inl ⟨_,_,_,e⟩))
  ·obtain ⟨rv,e,_⟩:=hx;exact .inr (.inr (.inr (.inr (.inl ⟨_,_,e⟩))))
  ·exact .inr (.inr (.inr (.inr (.inr (.inl ⟨_,hx.2⟩)))))
  ·obtain ⟨_,a,c,e,_⟩:=hx;exact .inr (.inr (.inr (.inr (.inr (.inr ⟨_,_,_,e⟩)))))
  ·obtain ⟨a,c,e,_⟩:=hx;exact .inr (.inr (.inr (.inr (.inr (.inr ⟨_,_,_,e⟩)))))
 have hG:∀ (op:BinOp),(eqGuard op t ox oy rx k.nilV).run P w=.ok () w∧(eqGuard op t ox oy k.nilV rx).run P w=.ok () w:=by
  intro op
  unfold eqGuard
  rcases hc with ⟨v,rfl⟩ | ⟨v,rfl⟩<;>rcases hshape with ⟨p,rfl⟩ | rfl | ⟨f,a,c,rfl⟩ | rfl | ⟨u,v,rfl⟩ | ⟨r,rfl⟩ | ⟨p,l,c,rfl⟩<;>cases k<;>cases op <;>
   first | exact ⟨rfl,rfl⟩ | (simp [NK.nilV];done)
 have hB:∀ (p q:Value),(p=rx∧q=k.nilV∨p=k.nilV∧q=rx)→(Op.equal t p q).run P w=.ok b w→(binOp .eql t p q).run P w=.ok (.bool b) w∧(binOp .neq t p q).run P w=.ok (.bool !b) w:=by
  intro p q hpq he
  have h1:binOp .eql t p q=(do pure (.bool (← Op.equal t p q)))∧binOp .neq t p q=(do pure (.bool (!(← Op.equal t p q)))):=by
   rcases hpq with ⟨rfl,rfl⟩ | ⟨rfl,rfl⟩<;>rcases hshape with ⟨p,rfl⟩ | rfl | ⟨f,a,c,rfl⟩ | rfl | ⟨u,v,rfl⟩ | ⟨r,rfl⟩ | ⟨p,l,c,rfl⟩<;>cases k<;>exact ⟨rfl,rfl⟩
  rw [h1.1,h1.2]
  simp only [Sem.run_bind,he,Result.andThen_ok]
  exact ⟨rfl,rfl⟩
 constructor
 ·simp only [Sem.run_bind,(hG _).1,Result.andThen_ok]
  cases neg
  ·exact (hB _ _ (.inl ⟨rfl,rfl⟩) hE.1).1
  ·exact (hB _ _ (.inl ⟨rfl,rfl⟩) hE.1).2
 ·simp only [Sem.run_bind,(hG _).2,Result.andThen_ok]
  cases neg
  ·exact (hB _ _ (.inr ⟨rfl,rfl⟩) hE.2).1
  ·exact (hB _ _ (.inr ⟨rfl,rfl⟩) hE.2).2
end
end
section
section
variable {P:Program} {G:Tie} {w:World}
theorem x4k:∀ (k d:Nat) {t:TypeId} {ls:List (Nat×LK)},k≤d→x3i P k t=some ls→P.eqGuardType d t=false
 | 0,_,_,_,_,h=>by simp [x3i] at h
 | k+1,d,t,ls,hd,h=>by
  obtain ⟨d,rfl⟩:∃ m,d=m+1:=⟨d-1,by omega⟩
  unfold x3i at h
  split at h
  ·rename_i hu;simp [Program.eqGuardType,hu]
  ·rename_i hu;simp [Program.eqGuardType,hu]
  ·rename_i hu;simp [Program.eqGuardType,hu]
  ·rename_i fs hu
   split at h
   ·simp at h
   ·simp only [Program.eqGuardType,hu]
    rw [← Array.any_toList]
    clear hu
    generalize fs.toList=fl at h
    induction fl generalizing ls with
    | nil=>rfl
    | cons f fl ih =>
     unfold x54 at h
     simp only [List.any_cons,Bool.or_eq_false_iff]
     split at h
     ·rename_i hn
      exact ⟨by simp [hn],ih _ h⟩
     ·simp only [Option.bind_eq_some_iff] at h
      obtain ⟨l,hl,n,hn,h⟩:=h
      split at h
      ·simp only [Option.map_eq_some_iff] at h
       obtain ⟨l2,hl2,_⟩:=h
       refine ⟨?_,ih _ hl2⟩
       rw [x4k k d (by omega) hl]
       simp
      ·simp at h
  ·rename_i n e hu
   simp only [Option.bind_eq_some_iff] at h
   obtain ⟨l,hl,_⟩:=h
   simp only [Program.eqGuardType,hu]
   exact x4k k d (by omega) hl
  ·simp at h
theorem xgp {t:TypeId} {ls:List (Nat×LK)} {xs ys:List V} {rx ry:Value} {res neg:Bool} {ox oy:Operand} (ht:(∃ fs,P.underlying t=some (.struct fs))∨∃ n e,P.underlying t=some (.array n e)) (hl:x3i P 8 t=some ls)
  (hx:RepV G (.agg xs) rx) (hy:RepV G (.agg ys) ry) (h:x1K xs ys ls=some res) :
  (do eqGuard (if neg then .neq else .eql) t ox oy rx ry;binOp (if neg then .neq else .eql) t rx ry:Sem Value).run P w=.ok (.bool (if neg then !res else res)) w:=by
 simp only [RepV] at hx hy
 obtain ⟨rxs,rfl,hx⟩:=hx
 obtain ⟨rys,rfl,hy⟩:=hy
 have hg:=run_eqGuard_agg (P:=P) w (if neg then .neq else .eql) t ox oy rxs rys (x4k 8 P.depth (by unfold Program.depth Made.depth;omega) hl)
 have hE:(Op.equalIn 10000 t (.agg rxs) (.agg rys)).run P w=.ok res w:=by
  rcases ht with ⟨fs,ht⟩ | ⟨n,e,ht⟩
  rotate_left
  ·unfold x3i at hl
   rw [ht] at hl
   simp only [Option.bind_eq_some_iff] at hl
   obtain ⟨l,hl,n',hn',hl2⟩:=hl
   split at hl2
   ·rename_i hal
    injection hl2 with hl2
    subst hl2
    obtain ⟨i,hi⟩:=x8s hn'
    rw [run_equalIn_array w 9999 _ _ ht hi]
    clear ht hg hi
    generalize List.range n=is at h
    induction is generalizing res with
    | nil =>
     simp only [List.flatMap_nil,x1K,Option.some.injEq] at h
     subst h
     simp [Op.eqItems]
    | cons i is ih =>
     rw [List.flatMap_cons,x3f] at h
     simp only [Option.bind_eq_some_iff,Option.map_eq_some_iff] at h
     obtain ⟨q1,hq1,q2,hq2,rfl⟩:=h
     obtain ⟨a,b,ha,hb,hab⟩:=xdc w 7 9999 (by omega) hl hn' hal hx hy hq1
     simp only [Op.eqItems,Sem.run_bind,ha,hb,hab,Result.andThen_ok,Sem.run_ite]
     cases q1
     ·simp
     ·simpa using ih hq2
   ·simp at hl2
  have hst:P.stoodInHeld t=false:=by
   unfold x3i at hl
   rw [ht] at hl
   simp only at hl
   split at hl
   ·simp at hl
   ·rename_i h;simpa using h
  have hfo:P.fieldsOf t=fs:=by unfold Program.fieldsOf;rw [ht]
  rw [run_equalIn_struct w 9999 t _ _ (by rw [hfo];exact ht) hst,hfo]
  unfold x3i at hl
  rw [ht] at hl
  simp only [hst,Bool.false_eq_true,if_false] at hl
  clear hfo hst hg ht
  generalize fs.toList=fl at hl
  induction fl generalizing ls res with
  | nil =>
   simp only [x54,Option.some.injEq] at hl
   subst hl
   simp only [x1K,Option.some.injEq] at h
   subst h
   simp [Op.eqFields]
  | cons f fl ih =>
   unfold x54 at hl
   unfold Op.eqFields
   split at hl
   ·rename_i hname
    rw [if_neg (by simpa using hname)]
    exact ih h hl
   ·rename_i hname
    rw [if_pos hname]
    simp only [Option.bind_eq_some_iff] at hl
    obtain ⟨l,hl1,n',hn',hl⟩:=hl
    split at hl
    ·rename_i hal
     simp only [Option.map_eq_some_iff] at hl
     obtain ⟨l2,hl2,rfl⟩:=hl
     rw [x3f] at h
     simp only [Option.bind_eq_some_iff,Option.map_eq_some_iff] at h
     obtain ⟨q1,hq1,q2,hq2,rfl⟩:=h
     obtain ⟨a,b,ha,hb,hab⟩:=xdc w 7 9999 (by omega) hl1 hn' hal hx hy hq1
     simp only [Sem.run_bind,ha,hb,hab,Result.andThen_ok,Sem.run_ite]
     cases q1
     ·simp
     ·simpa using ih hq2 hl2
    ·simp at hl
 simp only [Sem.run_bind,hg,Result.andThen_ok]
 cases neg
 ·simp only [Bool.false_eq_true,if_false]
  rw [run_eql_struct,hE]
  rfl
 ·simp only [if_true]
  rw [run_neq_struct,hE]
  rfl
theorem xam {t:TypeId} {fs:Array Field} {f:Field} {i s:Nat} {x v:V} {rx:Value} (ht:P.underlying t=some (.struct fs)) (hf:fs[i]?=some f) (hs:x2P P f.type=some s) (hpos:0<s)
  (hx:RepV G x rx) (h:zq f.offset x=some v) :
  ∃ r,(Instr.fieldAt t rx i).run P w=.ok r w∧RepV G v r:=by
 have hsz:(sizeOf f.type).run P w=.ok s w:=by
  simp only [x2P,Option.map_eq_some_iff] at hs
  obtain ⟨i,hi,hm⟩:=hs
  simp [sizeOf,typeInfo,hi,hm]
 have key0:∀ a:Addr,(Instr.fieldAt t (.pointer (some a)) i).run P w=.ok (.pointer (some (a.add f.offset))) w:=by
  intro a
  simp [Instr.fieldAt,run_underlying ht w,hf,Instr.sureAddr,fieldPlace,hsz,show s≠0 by omega]
 have key:∀ b o,(Instr.fieldAt t (.pointer (some ⟨b,o,none⟩)) i).run P w=.ok (.pointer (some ⟨b,o+f.offset,none⟩)) w:=by
  intro b o
  rw [key0,x2g]
 cases x<;>simp only [zq,reduceCtorEq] at h
 ·injection h with h;subst h
  simp only [RepV] at hx
  obtain ⟨hb,rfl⟩:=hx
  exact ⟨_,key _ _,by simp only [RepV];exact ⟨hb,trivial⟩⟩
 ·injection h with h;subst h
  simp only [RepV] at hx
  obtain ⟨hb,a,rfl,ha⟩:=hx
  refine ⟨_,key0 a,?_⟩
  simp only [RepV]
  refine ⟨hb,_,rfl,fun L hL=>⟨(ha L hL).1,fun he=>?_⟩⟩
  rw [(ha L hL).2 he,x2g,Nat.add_assoc]
 ·injection h with h;subst h
  simp only [RepV] at hx
  obtain ⟨b,o,rfl,hg,hF⟩:=hx
  refine ⟨_,key _ _,?_⟩
  simp only [RepV]
  exact ⟨b,o,by rw [Nat.add_assoc],hg,hF⟩
theorem x4K {t:TypeId} {s:Nat} (hs:x2P P t=some s) (w:World):(sizeOf t).run P w=.ok s w:=by
 simp only [x2P,Option.map_eq_some_iff] at hs
 obtain ⟨i,hi,hm⟩:=hs
 simp [sizeOf,typeInfo,hi,hm]
theorem xge {t:TypeId} {fs:Array Field} {f:Field} {i:Nat} {n:Option Nat} {cs:List V} {v:V} {rx:Value} (ht:P.underlying t=some (.struct fs)) (hf:fs[i]?=some f) (hn:x3U P f.type=some n)
  (hx:RepV G (.agg cs) rx) (h:zb n cs f.offset=some v):∃ r,(Instr.field t rx i).run P w=.ok r w∧RepV G v r:=by
 simp only [RepV] at hx
 obtain ⟨rs,rfl,hx⟩:=hx
 obtain ⟨r,h1,h2⟩:=xcO (P:=P) (w:=w) hn hx h
 exact ⟨r,by simp [Instr.field,run_underlying ht w,hf,asAgg,h1],h2⟩
theorem xee {t e:TypeId} {m:Nat} {n:Option Nat} {s:Nat} {cs:List V} {v x:V} {rx ri:Value} {k:Nat} (ht:P.underlying t=some (.array m e)) (hn:x3U P e=some n) (hs:x2P P e=some s)
  (hx:RepV G (.agg cs) rx) (hi:RepV G x ri) (hk:zj x=some k) (hlt:k<m) (h:zb n cs (k*s)=some v):∃ r,(Instr.index t rx ri).run P w=.ok r w∧RepV G v r:=by
 obtain ⟨kk,i,rfl,h0,rfl⟩:=x3o hi hk
 simp only [RepV] at hx
 obtain ⟨rs,rfl,hx⟩:=hx
 obtain ⟨r,h1,h2⟩:=xcO (P:=P) (w:=w) hn hx h
 refine ⟨r,?_,h2⟩
 have:0≤i∧i<(m:Int):=⟨h0,by omega⟩
 simp [Instr.index,asIntOf,run_underlying ht w,this,x4K hs w,h1]
theorem xed {t:TypeId} {s:ByteArray} {x:V} {rx ri:Value} {k:Nat} {c:UInt8} (ht:P.underlying t=some .string) (hx:RepV G (.sc (.string s)) rx) (hi:RepV G x ri) (hk:zj x=some k) (h:s[k]?=some c) :
  (Instr.index t rx ri).run P w=.ok (.int .u8 c.toNat) w:=by
 obtain ⟨kk,i,rfl,h0,rfl⟩:=x3o hi hk
 obtain rfl:=hx.sc_inv
 simp [Instr.index,asIntOf,run_underlying ht w,h0,h]
theorem xec {t e:TypeId} {m s k:Nat} {x v y:V} {rx ri:Value} (ht:P.underlying t=some (.array m e)) (hs:x2P P e=some s) (hx:RepV G x rx) (hi:RepV G y ri) (hk:zj y=some k) (hlt:k<m)
  (h:zq (k*s) x=some v) :
  ∃ r,(Instr.indexAt t rx ri).run P w=.ok r w∧RepV G v r:=by
 obtain ⟨kk,i,rfl,h0,rfl⟩:=x3o hi hk
 have hlt':0≤i∧i<(m:Int):=⟨h0,by omega⟩
 have key0:∀ a:Addr,(Instr.indexAt t (.pointer (some a)) (.int kk i)).run P w=.ok (.pointer (some (a.add (i.toNat*s)))) w:=by
  intro a
  simp [Instr.indexAt,asIntOf,run_underlying ht w,Instr.sureAddr,hlt',x4K hs w]
 cases x<;>simp only [zq,reduceCtorEq] at h
 ·injection h with h;subst h
  simp only [RepV] at hx
  obtain ⟨hb,rfl⟩:=hx
  exact ⟨_,key0 _,by simp only [RepV,x2g];exact ⟨hb,trivial⟩⟩
 ·injection h with h;subst h
  simp only [RepV] at hx
  obtain ⟨hb,a,rfl,ha⟩:=hx
  refine ⟨_,key0 a,?_⟩
  simp only [RepV]
  refine ⟨hb,_,rfl,fun L hL=>⟨(ha L hL).1,fun he=>?_⟩⟩
  rw [(ha L hL).2 he,x2g,Nat.add_assoc]
 ·injection h with h;subst h
  simp only [RepV] at hx
  obtain ⟨b,o,rfl,hg,hF⟩:=hx
  refine ⟨_,key0 _,?_⟩
  simp only [RepV,x2g]
  exact ⟨b,o,by rw [Nat.add_assoc],hg,hF⟩
theorem xeb {h:Heap} (R:Rel G h w) {t e:TypeId} {s k:Nat} {x v y:V} {rx ri:Value} (ht:P.underlying t=some (.slice e)) (hs:x2P P e=some s) (hx:RepV G x rx) (hi:RepV G y ri) (hk:zj y=some k)
  (hv:zi h s k x=some v) :
  ∃ r,(Instr.indexAt t rx ri).run P w=.ok r w∧RepV G v r:=by
 obtain ⟨kk,i,rfl,h0,rfl⟩:=x3o hi hk
 have key0:∀ (a:Addr) (len cap:Nat),i.toNat<len→(Instr.indexAt t (.slice (some a) len cap) (.int kk i)).run P w=.ok (.pointer (some (a.add (i.toNat*s)))) w:=by
  intro a len cap hl
  have hlt':0≤i∧i<(len:Int):=⟨h0,by omega⟩
  simp [Instr.indexAt,asIntOf,run_underlying ht w,hlt',x4K hs w]
 cases x<;>simp only [zi,reduceCtorEq] at hv
 ·split at hv
  ·rename_i hz
   subst hz
   simp only [Option.map_eq_some_iff] at hv
   obtain ⟨cs,hcs,rfl⟩:=hv
   simp only [RepV] at hx
   obtain ⟨a,cap,rfl,hl,he,hg,b,o,ha,_,hR⟩:=hx
   have hlt:=(List.getElem?_eq_some_iff.1 hcs).1
   have hne:_≠[]:=List.ne_nil_of_length_pos (Nat.lt_of_le_of_lt (Nat.zero_le _) hlt)
   rw [ha hne]
   refine ⟨_,key0 _ _ _ hlt,?_⟩
   obtain ⟨_,hF⟩:=hR.get hcs
   simp only [RepV,x2g]
   refine ⟨_,_,rfl,?_,hF⟩
   rw [List.all_eq_true] at hg
   exact hg cs (List.mem_of_getElem? hcs)
  ·simp at hv
 ·split at hv
  ·rename_i z rs hr
   split at hv
   ·rename_i hc
    obtain ⟨rfl,hkl,hol⟩:=hc
    injection hv with hv;subst hv
    simp only [RepV] at hx
    obtain ⟨hb,a,cap,rfl,hL⟩:=hx
    refine ⟨_,key0 _ _ _ hkl,?_⟩
    simp only [RepV]
    refine ⟨hb,_,rfl,fun L hL'=>⟨(hL L hL').1,fun he=>?_⟩⟩
    obtain ⟨_,_,_,L2,_,hL2,_,hLs,_⟩:=R.rowAt hr
    rw [hL'] at hL2
    injection hL2 with hL2
    subst hL2
    have h3:=(hL L hL').2 he
    rw [h3.2.2 (by omega),x2g,hLs,Nat.add_mul]
    rfl
   ·simp at hv
  ·simp at hv
theorem xaK {h:Heap} {v:V} {h':Heap} {ρ:Operand→Value} {o:Oper} {ox:Operand} {ax:Opd} {en:Env} {base:Nat} (ho:o.op=.nilCheck ox) (hx:RepV G (ax.get en) (ρ ox)) (hs:step base en h (.nilCheck ax)=some (v,h')) :
  (execOp ρ o).run P w=.ok (.value (ρ ox)) w∧RepV G v (ρ ox)∧h'=h:=by
 unfold execOp
 simp only [ho]
 simp only [step] at hs
 generalize hq:ax.get en=q at hs hx
 cases q<;>first | (simp only [reduceCtorEq] at hs;done) | skip
 ·injection hs with hs
  simp only [Prod.mk.injEq] at hs
  obtain ⟨rfl,rfl⟩:=hs
  refine ⟨?_,hx,rfl⟩
  simp only [RepV] at hx
  rw [hx.2]
  rfl
 ·injection hs with hs
  simp only [Prod.mk.injEq] at hs
  obtain ⟨rfl,rfl⟩:=hs
  refine ⟨?_,hx,rfl⟩
  simp only [RepV] at hx
  obtain ⟨_,a,hr,_⟩:=hx
  rw [hr]
  rfl
 ·injection hs with hs
  simp only [Prod.mk.injEq] at hs
  obtain ⟨rfl,rfl⟩:=hs
  refine ⟨?_,hx,rfl⟩
  simp only [RepV] at hx
  obtain ⟨b,oo,hr,_⟩:=hx
  rw [hr]
  rfl
 ·rename_i f a c
  cases f<;>first | (simp only [reduceCtorEq] at hs;done) | skip
  injection hs with hs
  simp only [Prod.mk.injEq] at hs
  obtain ⟨rfl,rfl⟩:=hs
  refine ⟨?_,hx,rfl⟩
  simp only [RepV] at hx
  obtain ⟨ra,rc,hr,_⟩:=hx
  rw [hr]
  rfl
end
end
section
section
variable {P:Program} {G:Tie} {w:World}
def OB (d:Nat) (o:Option Value) (n:Nat):Prop:=(o=none∧n=d)∨∃ k i,o=some (.int k i)∧0≤i∧i.toNat=n
theorem x1J {k:IntKind} {i:Int} {y:Nat} {code:BoundsCode} (h0:0≤i) (h1:i.toNat≤y):(Instr.sliceBound (.int k i) y code).run P w=.ok i.toNat w:=by
 have:0≤i∧i≤(y:Int):=⟨h0,by omega⟩
 simp [Instr.sliceBound,asIntOf,this]
theorem x6x {b:Bool} {len cap l e m:Nat} {low high mx:Option Value} (hl:OB 0 low l) (hh:OB len high e) (hm:OB cap mx m) (hn:high=none→mx=none) (h1:l≤e) (h2:e≤m) (h3:m≤cap) :
  (Instr.sliceBounds b len cap low high mx).run P w=.ok (l,e,m) w:=by
 unfold Instr.sliceBounds
 rcases hm with ⟨rfl,rfl⟩ | ⟨km,im,rfl,hm0,rfl⟩
 ·rcases hh with ⟨rfl,rfl⟩ | ⟨kh,ih,rfl,hh0,rfl⟩
  ·rcases hl with ⟨rfl,rfl⟩ | ⟨kl,il,rfl,hl0,rfl⟩
   ·simp
   ·simp [x1J hl0 h1]
  ·rcases hl with ⟨rfl,rfl⟩ | ⟨kl,il,rfl,hl0,rfl⟩
   ·simp [x1J hh0 h2]
   ·simp [x1J hl0 h1,x1J hh0 h2]
 ·rcases hh with ⟨rfl,rfl⟩ | ⟨kh,ih,rfl,hh0,rfl⟩
  ·simp at hn
  ·rcases hl with ⟨rfl,rfl⟩ | ⟨kl,il,rfl,hl0,rfl⟩
   ·simp [x1J hm0 h3,x1J hh0 h2]
   ·simp [x1J hm0 h3,x1J hl0 h1,x1J hh0 h2]
theorem x2K {t e:TypeId} {s len cap l h m:Nat} {a:Option Addr} {low high mx:Option Value} (ht:P.underlying t=some (.slice e)) (hs:x2P P e=some s) (hl:OB 0 low l) (hh:OB len high h) (hm:OB cap mx m)
  (hn:high=none→mx=none) (h1:l≤h) (h2:h≤m) (h3:m≤cap) :
  (Instr.sliceAt t (.slice a len cap) low high mx).run P w=.ok (.slice (if m=l then a else a.map (·.add (l*s))) (h-l) (m-l)) w:=by
 simp [Instr.sliceAt,Instr.slice,run_underlying ht w,x6x hl hh hm hn h1 h2 h3,x4K hs w]
theorem xdD {h h':Heap} (R:Rel G h w) {t e:TypeId} {s l:Nat} {hi mx:Option Nat} {x v:V} {rx:Value} {low high rmx:Option Value} (ht:P.underlying t=some (.slice e)) (hs:x2P P e=some s)
  (hx:RepV G x rx) (hl:OB 0 low l) (hh:∀ d,OB d high (hi.getD d)) (hm:∀ d,OB d rmx (mx.getD d)) (hn:high=none→rmx=none) (hmx:mx=none↔rmx=none) (hn':hi=none→mx=none)
  (hv:zg h s x l hi mx=some (v,h')) :
  ∃ r G',(Instr.sliceAt t rx low high rmx).run P w=.ok r w∧Ext G G'∧Rel G' h' w∧RepV G' v r:=by
 unfold zg at hv
 split at hv
 ·rename_i ex z rs
  simp only [RepV] at hx
  obtain ⟨a,cap,rfl,hlc,hex,hg,b,o,ha,_,hR⟩:=hx
  split at hv
  ·rename_i hc
   obtain ⟨hz,h1,h2,h3,h4⟩:=hc
   injection hv with hv
   simp only [Prod.mk.injEq] at hv
   obtain ⟨rfl,rfl⟩:=hv
   have hmc:mx.getD cap≤cap:=by
    cases mx with
    | none=>simp
    | some m=>simp at h3 ⊢;omega
   have hem:hi.getD rs.length≤mx.getD cap:=by
    cases mx with
    | none=>simp;omega
    | some m=>simp at h4 ⊢;omega
   refine ⟨_,G,x2K ht hs hl (hh _) (hm _) hn h1 hem hmc,Ext.refl G,R,?_⟩
   generalize hE:hi.getD rs.length=E at *
   have hlen:((rs.drop l).take (E-l)).length=E-l:=by simp;omega
   simp only [RepV]
   refine ⟨_,_,by rw [hlen],by rw [hlen];omega,?_,?_,b,o+l*z,?_,?_,?_⟩
   ·intro hx
    rw [hlen]
    cases mx with
    | none =>
     have hx':ex.isFull=true∧E=rs.length:=by
      simp only [zp] at hx
      split at hx
      ·rename_i hq;simpa using hq
      ·simp [Cp.isFull] at hx
     have:=hex hx'.1
     simp
     omega
    | some m =>
     have hx':m=E:=by
      simp only [zp] at hx
      split at hx
      ·rename_i hq;simpa using hq
      ·simp [Cp.isFull] at hx
     simp
     omega
   ·rw [List.all_eq_true] at hg ⊢
    exact fun y hy=>hg y (List.mem_of_mem_drop (List.mem_of_mem_take hy))
   ·intro hne
    have hlt:l<E:=by
     rcases Nat.lt_or_ge l E with h | h
     ·exact h
     ·exfalso;apply hne;rw [show E-l=0 by omega];rfl
    have hrs:rs≠[]:=by
     rintro rfl
     simp at h2
     omega
    have hzs:z=s:=by
     simp only [Bool.or_eq_true,beq_iff_eq] at hz
     rcases hz with hz | hz
     ·exact absurd (List.isEmpty_iff.1 hz) hrs
     ·exact hz
    rw [if_neg (by omega),ha hrs]
    simp [x2g,hzs]
   ·intro hx
    exfalso
    unfold zp at hx
    cases mx<;>simp only at hx<;>split at hx<;>cases hx
   ·exact x0T.of_get fun i cs hi'=>by
     rw [List.getElem?_take] at hi'
     split at hi'
     ·rw [List.getElem?_drop] at hi'
      have:=hR.get hi'
      rwa [Nat.add_mul,← Nat.add_assoc] at this
     ·simp at hi'
  ·simp at hv
 ·rename_i b ep off len
  split at hv
  ·rename_i hc
   obtain ⟨h1,h2⟩:=hc
   split at hv
   ·rename_i ty z e' rs eq
    split at hv
    ·rename_i hc
     obtain ⟨rfl,rfl⟩:=hc
     simp only [RepV] at hx
     obtain ⟨hb,a,cap,rfl,hLx⟩:=hx
     obtain ⟨hpos,L,rs',hL,hLe,hLs,hcp,hw,hsz,hB⟩:=R.row _ _ _ _ _ eq
     obtain ⟨hk1,hk2⟩:=hLx L hL
     obtain ⟨hlc,hoc,haa⟩:=hk2 hLe.symm
     split at hv
     ·injection hv with hv
      simp only [Prod.mk.injEq] at hv
      obtain ⟨rfl,rfl⟩:=hv
      have hrm:rmx=none:=hmx.1 rfl
      subst hrm
      refine ⟨_,G,x2K ht hs hl (hh _) (.inl ⟨rfl,rfl⟩) (fun _=>rfl) h1 (by omega) (Nat.le_refl _),Ext.refl G,R,?_⟩
      simp only [RepV]
      refine ⟨hb,if cap=l then a else a.add (l*z),cap-l,?_,?_⟩
      ·split<;>rfl
      ·intro L' hL'
       rw [hL] at hL'
       injection hL' with hL'
       subst hL'
       refine ⟨hk1,fun _=>⟨by omega,by omega,fun hc=>?_⟩⟩
       rw [if_neg (by omega),haa (by omega),x2g,hLs,Nat.add_mul]
     ·rename_i m
      split at hv
      ·rename_i hc
       obtain ⟨rfl,rfl,rfl,hlen⟩:=hc
       have hhi:hi≠none:=fun e=>by have:=hn' e;simp at this
       obtain ⟨E,rfl⟩:=Option.ne_none_iff_exists'.1 hhi
       split at hv
       ·rename_i hE
        simp only [Option.getD_some] at hE
        injection hv with hv
        simp only [Prod.mk.injEq] at hv
        obtain ⟨rfl,rfl⟩:=hv
        simp only [Option.getD_some] at h1 h2 hm hh ⊢
        subst hE
        refine ⟨_,G,x2K ht hs hl (hh _) (hm _) hn h1 (Nat.le_refl _) (by omega),Ext.refl G,R,?_⟩
        simp only [RepV]
        refine ⟨hb,a,E,?_,?_⟩
        ·simp [Addr.add]
        ·intro L' hL'
         rw [hL] at hL'
         injection hL' with hL'
         subst hL'
         refine ⟨hk1,fun _=>⟨Nat.le_refl _,by omega,fun hc=>?_⟩⟩
         have:=haa (by omega)
         simpa using this
       injection hv with hv
       simp only [Prod.mk.injEq] at hv
       obtain ⟨rfl,rfl⟩:=hv
       simp only [Option.getD_some] at h1 h2 hm hh ⊢
       have hstep:Rel (G.setRow b { L with e:=e'+1,vis:=E }) (h.set b (.row ty z (e'+1) (rs.take E))) w:=by
        refine R.setRowAt (L':={ L with e:=e'+1,vis:=E }) eq hL (by simp;omega) (by simp;omega) rfl hLs (by simp;omega) (.inl rfl) (Nat.le_refl _) (fun _ _ _=>rfl) hw (by simpa using hsz) ?_
        intro i cs hi'
        rw [List.getElem?_take] at hi'
        split at hi'
        ·exact hB i cs hi'
        ·simp at hi'
       refine ⟨_,_,x2K ht hs hl (hh _) (hm _) hn h1 (Nat.le_refl _) (by omega),Ext.setRow G b L _ hL (by simp;omega) (by simp;omega),hstep,?_⟩
       simp only [RepV]
       refine ⟨hb,a,E,?_,?_⟩
       ·simp [Addr.add]
       ·intro L' hL'
        simp only [Tie.setRow,if_true,Option.some.injEq] at hL'
        subst hL'
        refine ⟨Nat.le_refl _,fun _=>⟨Nat.le_refl _,by simp;omega,fun hc=>?_⟩⟩
        have:=haa (by omega)
        simpa using this
      ·split at hv
       ·rename_i hc
        injection hv with hv
        simp only [Prod.mk.injEq] at hv
        obtain ⟨rfl,rfl⟩:=hv
        refine ⟨_,G,x2K ht hs hl (hh _) (hm _) hn h1 hc.1 (show m≤cap by omega),Ext.refl G,R,by simp [RepV]⟩
       ·simp at hv
    ·simp at hv
   ·simp at hv
  ·rename_i hno
   simp only [Option.map_eq_some_iff,Prod.mk.injEq] at hv
   obtain ⟨v',hv,rfl,rfl⟩:=hv
   unfold farV at hv
   split at hv
   ·rename_i z rs eq
    split at hv
    ·rename_i hc
     obtain ⟨rfl,h1,h2,hmxn⟩:=hc
     injection hv with hv
     subst hv
     have hmxn:mx=none:=by simpa using hmxn
     subst hmxn
     have hrm:rmx=none:=hmx.1 rfl
     subst hrm
     simp only [RepV] at hx
     obtain ⟨hb,a,cap,rfl,hLx⟩:=hx
     obtain ⟨ty,_,hpos,L,rs',hL,hLe,hLs,hcp,hw,hsz,hB⟩:=R.rowAt eq
     obtain ⟨hk1,hk2⟩:=hLx L hL
     obtain ⟨hlc,hoc,haa⟩:=hk2 hLe.symm
     refine ⟨_,G,x2K ht hs hl (hh _) (.inl ⟨rfl,rfl⟩) (fun _=>rfl) h1 (by omega) (Nat.le_refl _),Ext.refl G,R,?_⟩
     simp only [RepV]
     refine ⟨hb,if cap=l then a else a.add (l*z),cap-l,?_,?_⟩
     ·split<;>rfl
     ·intro L' hL'
      rw [hL] at hL'
      injection hL' with hL'
      subst hL'
      refine ⟨hk1,fun _=>⟨by omega,by omega,fun hc=>?_⟩⟩
      rw [if_neg (by omega),haa (by omega),x2g,hLs,Nat.add_mul]
    ·simp at hv
   ·simp at hv
 ·rename_i n c
  split at hv
  ·rename_i hc
   obtain ⟨rfl,rfl,rfl,h2,h3⟩:=hc
   injection hv with hv
   simp only [Prod.mk.injEq] at hv
   obtain ⟨rfl,rfl⟩:=hv
   obtain rfl:=hx.sc_inv
   refine ⟨_,G,x2K ht hs hl (hh 0) (hm 0) hn (by omega) (by omega) (by omega),Ext.refl G,R,?_⟩
   simp only [h2,h3]
   simp [RepV,Value.oneCell']
  ·simp at hv
 ·simp at hv
end
end
section
section
variable {P:Program} {G:Tie} {w:World}
def x2j (G:Tie) (sz:Nat) (rows:List (List V)) (rs:List Value):Prop :=
 rs.length=rows.length*sz∧∀ i cs,rows[i]?=some cs→cs.length=sz∧∀ j c,cs[j]?=some c→∃ v,rs[i*sz+j]?=some v∧RepV G c v
theorem x9C {sz n k:Nat} (h:k<n*sz):∃ i j,i<n∧j<sz∧k=i*sz+j:=by
 have hs:0<sz:=by
  rcases Nat.eq_zero_or_pos sz with e | e
  ·subst e;simp at h
  ·exact e
 refine ⟨k/sz,k%sz,?_,Nat.mod_lt _ hs,?_⟩
 ·exact (Nat.div_lt_iff_lt_mul hs).2 h
 ·have:=Nat.div_add_mod k sz
  rw [Nat.mul_comm] at this
  exact this.symm
theorem xa0 {sz i j i' j':Nat} (hj:j<sz) (hj':j'<sz) (h:i*sz+j=i'*sz+j'):i=i'∧j=j':=by
 have hs:0<sz:=by omega
 have h1:(i*sz+j)/sz=i:=by rw [Nat.mul_comm,Nat.mul_add_div hs,Nat.div_eq_of_lt hj];rfl
 have h2:(i'*sz+j')/sz=i':=by rw [Nat.mul_comm,Nat.mul_add_div hs,Nat.div_eq_of_lt hj'];rfl
 have:i=i':=by rw [← h1,h,h2]
 subst this
 exact ⟨rfl,by omega⟩
theorem x2j.append {sz:Nat} {xs ys:List (List V)} {rs ss:List Value} (h:x2j G sz xs rs) (k:x2j G sz ys ss):x2j G sz (xs++ys) (rs++ss):=by
 refine ⟨by simp [h.1,k.1,Nat.add_mul],fun i cs hi=>?_⟩
 by_cases hl:i<xs.length
 ·rw [List.getElem?_append_left hl] at hi
  obtain ⟨h1,h2⟩:=h.2 i cs hi
  refine ⟨h1,fun j c hj=>?_⟩
  obtain ⟨v,h3,h4⟩:=h2 j c hj
  exact ⟨v,by rw [List.getElem?_append_left (List.getElem?_eq_some_iff.1 h3).1];exact h3,h4⟩
 ·rw [List.getElem?_append_right (by omega)] at hi
  obtain ⟨h1,h2⟩:=k.2 _ cs hi
  refine ⟨h1,fun j c hj=>?_⟩
  obtain ⟨v,h3,h4⟩:=h2 j c hj
  have hge:xs.length*sz≤i*sz:=Nat.mul_le_mul_right _ (by omega)
  have hsub:(i-xs.length)*sz=i*sz-xs.length*sz:=Nat.sub_mul _ _ _
  refine ⟨v,?_,h4⟩
  rw [List.getElem?_append_right (by rw [h.1];omega),h.1,show i*sz+j-xs.length*sz=(i-xs.length)*sz+j by omega]
  exact h3
theorem x2j.blk {sz:Nat} {xs:List (List V)} {rs:List Value} {rest:List Value} (h:x2j G sz xs rs) (h1:∀ r∈xs,r.all zm=true):x2A G sz (rs++rest).toArray xs:=by
 intro i cs hi
 obtain ⟨h2,h3⟩:=h.2 i cs hi
 refine ⟨h2,h1 cs (List.mem_of_getElem? hi),fun j c hj=>?_⟩
 obtain ⟨v,h4,h5⟩:=h3 j c hj
 exact ⟨v,by rw [List.getElem?_toArray,List.getElem?_append_left (List.getElem?_eq_some_iff.1 h4).1];exact h4,h5⟩
theorem x2j.one {sz:Nat} {xs:List (List V)} {rs:List Value} (h:x2j G sz xs rs) (h1:∀ r∈xs,r.all zm=true):∀ v∈rs,v.oneCell'=true:=by
 intro v hv
 obtain ⟨k,hk⟩:=List.getElem?_of_mem hv
 have hlt:=(List.getElem?_eq_some_iff.1 hk).1
 rw [h.1] at hlt
 obtain ⟨i,j,hi,hj,rfl⟩:=x9C hlt
 have hcs:xs[i]?=some xs[i]:=List.getElem?_eq_getElem hi
 obtain ⟨h2,h3⟩:=h.2 i _ hcs
 have hc:xs[i][j]?=some (xs[i][j]'(by omega)):=List.getElem?_eq_getElem (by omega)
 obtain ⟨u,h4,h5⟩:=h3 j _ hc
 rw [hk] at h4
 injection h4 with h4
 subst h4
 apply h5.one
 have:=h1 _ (List.mem_of_getElem? hcs)
 rw [List.all_eq_true] at this
 exact this _ (List.mem_of_getElem? hc)
theorem x7j {sz b o:Nat} {rows:List (List V)} (h:∀ i cs,rows[i]?=some cs→cs.length=sz∧∀ j c,cs[j]?=some c→∃ v,w.cell? ⟨b,o+(i*sz+j),none⟩=some v∧RepV G c v) :
  ∃ rs:List Value,x2j G sz rows rs∧∀ j v,rs[j]?=some v→w.cell? ⟨b,o+j,none⟩=some v:=by
 refine ⟨(List.range (rows.length*sz)).map fun k=>(w.cell? ⟨b,o+k,none⟩).getD undef,⟨by simp,fun i cs hi=>?_⟩,fun k v hk=>?_⟩
 ·obtain ⟨h1,h2⟩:=h i cs hi
  refine ⟨h1,fun j c hj=>?_⟩
  obtain ⟨v,h3,h4⟩:=h2 j c hj
  have hi':=(List.getElem?_eq_some_iff.1 hi).1
  have hj':=(List.getElem?_eq_some_iff.1 hj).1
  have:i*sz+j<rows.length*sz:=by
   have:(i+1)*sz≤rows.length*sz:=Nat.mul_le_mul_right _ (by omega)
   rw [Nat.add_mul] at this
   omega
  exact ⟨v,by simp [this,h3],h4⟩
 ·have hlt:k<rows.length*sz:=by
   have:=(List.getElem?_eq_some_iff.1 hk).1
   simpa using this
  obtain ⟨i,j,hi,hj,rfl⟩:=x9C hlt
  have hcs:rows[i]?=some rows[i]:=List.getElem?_eq_getElem hi
  obtain ⟨h2,h3⟩:=h i _ hcs
  have hc:rows[i][j]?=some (rows[i][j]'(by omega)):=List.getElem?_eq_getElem (by omega)
  obtain ⟨u,h4,h5⟩:=h3 j _ hc
  simp [hlt,h4] at hk
  subst hk
  exact h4
theorem x8Y {h:Heap} (R:Rel G h w) {sz:Nat} {x:V} {rx:Value} {rows:List (List V)} (hx:RepV G x rx) (he:x5u sz h x=some rows) :
  ∃ a cap rs,rx=.slice a rows.length cap∧rows.length≤cap∧x2j G sz rows rs∧(rows≠[]→∃ b o,a=some ⟨b,o,none⟩∧∀ j v,rs[j]?=some v→w.cell? ⟨b,o+j,none⟩=some v):=by
 unfold x5u at he
 split at he
 ·rename_i ex z rs
  split at he
  ·rename_i hz
   injection he with he;subst he
   simp only [RepV] at hx
   obtain ⟨a,cap,rfl,hl,hex,hg,b,o,ha,_,hR⟩:=hx
   by_cases hne:rs=[]
   ·subst hne
    exact ⟨a,cap,[],rfl,hl,⟨by simp,by simp⟩,by simp⟩
   ·have hzs:z=sz:=by
     simp only [Bool.or_eq_true,beq_iff_eq] at hz
     rcases hz with hz | hz
     ·exact absurd (List.isEmpty_iff.1 hz) hne
     ·exact hz
    subst hzs
    obtain ⟨vs,h1,h2⟩:=x7j (G:=G) (w:=w) (sz:=z) (b:=b) (o:=o) (rows:=rs) (fun i cs hi=>by
     obtain ⟨h3,h4⟩:=hR.get hi
     refine ⟨h3,fun j c hj=>?_⟩
     obtain ⟨v,h5,h6⟩:=h4.get hj
     exact ⟨v,by rw [← Nat.add_assoc];exact R.fz _ _ _ h5,h6⟩)
    exact ⟨a,cap,vs,rfl,hl,h1,fun _=>⟨b,o,ha hne,h2⟩⟩
  ·simp at he
 ·rename_i b e off len
  split at he
  ·rename_i z rs hr
   split at he
   ·rename_i hc
    obtain ⟨rfl,hol⟩:=hc
    injection he with he;subst he
    obtain ⟨ty,eq,hpos,L,rs',hL,hLe,hLs,hcp,hw,hsz,hB⟩:=R.rowAt hr
    simp only [RepV] at hx
    obtain ⟨hb,a,cap,rfl,hLx⟩:=hx
    obtain ⟨hlc,hoc,haa⟩:=(hLx L hL).2 hLe.symm
    have hlen:((rs.drop off).take len).length=len:=by simp;omega
    obtain ⟨vs,h1,h2⟩:=x7j (G:=G) (w:=w) (sz:=z) (b:=L.blk) (o:=off*z) (rows:=(rs.drop off).take len) (fun i cs hi=>by
     rw [List.getElem?_take] at hi
     split at hi
     ·rw [List.getElem?_drop] at hi
      obtain ⟨h3,_,h4⟩:=hB _ _ hi
      refine ⟨h3,fun j c hj=>?_⟩
      obtain ⟨v,h5,h6⟩:=h4 j c hj
      refine ⟨v,?_,h6⟩
      rw [x3N hw,← h5,Nat.add_mul]
      congr 1
      omega
     ·simp at hi)
    refine ⟨some a,cap,vs,by rw [hlen],by rw [hlen];exact hlc,h1,fun hne=>⟨L.blk,off*z,?_,h2⟩⟩
    have:0<len:=by
     rcases Nat.eq_zero_or_pos len with e0 | e0
     ·subst e0;simp at hne
     ·exact e0
    rw [haa (by omega),hLs]
   ·simp at he
  ·simp at he
 ·injection he with he;subst he
  obtain rfl:=hx.sc_inv
  exact ⟨none,0,[],rfl,Nat.le_refl _,⟨by simp,by simp⟩,by simp⟩
 ·simp at he
theorem x7q (G:Tie) (s:ByteArray):x2j G 1 (x43 s) (s.data.toList.map fun c=>Value.int .u8 c.toNat):=by
 refine ⟨by simp [x43],fun i cs hi=>?_⟩
 simp only [x43,List.getElem?_map,Option.map_eq_some_iff] at hi
 obtain ⟨c,hc,rfl⟩:=hi
 refine ⟨rfl,fun j d hj=>?_⟩
 cases j with
 | succ j=>simp at hj
 | zero =>
  simp only [List.getElem?_cons_zero,Option.some.injEq] at hj
  subst hj
  exact ⟨_,by simp [hc],RepV.int _ _ _⟩
theorem x9W {h:Heap} (R:Rel G h w) {sz:Nat} {x:V} {rx:Value} {new:List (List V)} (hx:RepV G x rx) (he:x30 sz h x=some new) :
  ∃ news,x2j G sz new news∧(∀ w2,(Builtin.lenOf rx).run P w2=.ok new.length w2) ∧
   (∀ w2 n,w2.heap=w.heap→n≤new.length→(Builtin.firstCells sz n rx).run P w2=.ok (news.take (n*sz)).toArray w2):=by
 unfold x30 at he
 split at he
 ·rename_i s
  split at he
  ·rename_i hz
   subst hz
   injection he with he;subst he
   obtain rfl:=hx.sc_inv
   refine ⟨_,x7q G s,fun w2=>?_,fun w2 n hw hn=>?_⟩
   ·simp [Builtin.lenOf,x43]
   ·simp only [Builtin.firstCells,Sem.run_pure,Nat.mul_one]
    congr 1
    apply Array.ext'
    simp only [Array.toList_map,← List.map_take]
    congr 1
    show ((s.extract 0 n).data).toList=_
    simp [ByteArray.extract,ByteArray.copySlice]
  ·simp at he
 ·obtain ⟨a,cap,rs,rfl,_,h1,h2⟩:=x8Y R hx he
  refine ⟨rs,h1,fun w2=>by simp [Builtin.lenOf],fun w2 n hw hn=>?_⟩
  by_cases hne:new=[]
  ·subst hne
   have hn0:n=0:=by simpa using hn
   subst hn0
   cases a<;>simp [Builtin.firstCells,loadCells,loadCellsFrom]
  ·obtain ⟨b,o,rfl,h3⟩:=h2 hne
   have hl:(rs.take (n*sz)).length=n*sz:=by
    rw [List.length_take,h1.1,Nat.min_eq_left (Nat.mul_le_mul_right sz hn)]
   have:=run_loadCells_list (P:=P) w2 ⟨b,o,none⟩ (rs.take (n*sz)) (fun j v hj=>by
    rw [x2g]
    have hj':rs[j]?=some v:=by
     rw [List.getElem?_take] at hj
     split at hj
     ·exact hj
     ·simp at hj
    have:=h3 j v hj'
    unfold World.cell? at this ⊢
    rwa [hw])
   rw [hl] at this
   simpa [Builtin.firstCells] using this
theorem x3L {e:TypeId} {sz:Nat} (h:x2n P e=some sz):∃ i z,P.info? e=some i∧i.zero=some z∧i.size=sz∧0<sz∧i.bytes≤1024∧z.cells.size=sz:=by
 simp only [x2n,Option.bind_eq_some_iff] at h
 obtain ⟨i,hi,z,hz,h⟩:=h
 split at h
 ·rename_i hc
  injection h with h;subst h
  exact ⟨i,z,hi,hz,rfl,hc.1,hc.2.1,hc.2.2⟩
 ·simp at h
theorem x6m {t u ty e:TypeId} {i:TypeInfo} {a:Option Addr} {sLen cap n:Nat} {rx:Value} {news:List Value} {w':World} (ht:P.underlying t=some (.slice e))
  (hu:P.underlying u=some .string∨∃ e',P.underlying u=some (.slice e'))
  (hi:P.info? e=some i) (hl:(Builtin.lenOf rx).run P w=.ok n w) (hf:(Builtin.firstCells i.size n rx).run P w=.ok news.toArray w) (hroom:sLen+n≤cap)
  (hst:∀ b,a=some b→(storeCells (b.add (sLen*i.size)) news).run P w=.ok () w') (hno:a=none→w'=w) :
  (Builtin.append_ #[t,u] ty #[.slice a sLen cap,rx]).run P w=.ok (.slice a (sLen+n) cap) w':=by
 rcases hu with hu | ⟨e',hu⟩
 ·cases a with
  | none =>
   have:=hno rfl
   subst this
   simp [Builtin.append_,run_underlying ht,run_underlying hu,sizeOf,typeInfo,hi,hl,hroom,hf]
  | some b =>
   have:=hst b rfl
   simp [Builtin.append_,run_underlying ht,run_underlying hu,sizeOf,typeInfo,hi,hl,hroom,hf,this]
 ·cases a with
  | none =>
   have:=hno rfl
   subst this
   simp [Builtin.append_,run_underlying ht,run_underlying hu,sizeOf,typeInfo,hi,hl,hroom,hf]
  | some b =>
   have:=hst b rfl
   simp [Builtin.append_,run_underlying ht,run_underlying hu,sizeOf,typeInfo,hi,hl,hroom,hf,this]
theorem x95 {t u ty e:TypeId} {i:TypeInfo} {z:Value} {a:Option Addr} {sLen cap n:Nat} {rx:Value} {olds news:List Value} (ht:P.underlying t=some (.slice e))
  (hu:P.underlying u=some .string∨∃ e',P.underlying u=some (.slice e'))
  (hi:P.info? e=some i) (hz:i.zero=some z) (hl:(Builtin.lenOf rx).run P w=.ok n w) (hf:(Builtin.firstCells i.size n rx).run P w.drew=.ok news.toArray w.drew)
  (hfo:(Builtin.firstCells i.size sLen (.slice a sLen cap)).run P w.drew=.ok olds.toArray w.drew) (hroom:cap<sLen+n) (hb:i.bytes≤1024) (hlim:sLen+n≤lim) :
  (Builtin.append_ #[t,u] ty #[.slice a sLen cap,rx]).run P w=.ok (.slice (some ⟨w.heap.size,0,none⟩) (sLen+n) (grownCap w (sLen+n) cap e))
   (w.drew.alloc (.cells (olds++news++(Builtin.zeroCells z.cells (grownCap w (sLen+n) cap e-(sLen+n))).toList).toArray e (0,0))):=by
 unfold lim at hlim
 have hn:¬ (sLen+n≤cap):=by omega
 have h63':¬ (9223372036854775807<((sLen:Int)+(n:Int))):=by omega
 have hby:(sLen+n)*i.bytes≤140737488355328:=by
  have h1:(sLen+n)*i.bytes≤(sLen+n)*1024:=Nat.mul_le_mul_left _ hb
  omega
 have hfit:=growslice_fits (bytes:=i.bytes) (show cap<sLen+n by omega) hby
 have h48':¬ (281474976710656<Builtin.nextslicecap (sLen+n) cap*i.bytes):=by omega
 rcases hu with hu | ⟨e',hu⟩
 ·simp [Builtin.append_,run_underlying ht,run_underlying hu,sizeOf,typeInfo,zeroValue,hi,hz,hl,hn,h63',h48',Question.forced,newRow,hf,hfo,grownCap]
  congr 2
  apply Array.ext'
  simp
 ·simp [Builtin.append_,run_underlying ht,run_underlying hu,sizeOf,typeInfo,zeroValue,hi,hz,hl,hn,h63',h48',Question.forced,newRow,hf,hfo,grownCap]
  congr 2
  apply Array.ext'
  simp
end
end
section
open Go.RowKit (Below)
section
variable {P:Program} {G:Tie} {w:World}
theorem Rel.drew {G:Tie} {h:Heap} {w:World} (R:Rel G h w):Rel G h w.drew:=R.world (Nat.le_refl _) (fun _ _=>rfl)
theorem xei {olds news:List Value} {z:Value} {sz n m cap:Nat} (h1:olds.length=n*sz) (h2:news.length=m*sz) (h3:z.cells.size=sz) (h4:n+m≤cap) :
  (olds++news++(Builtin.zeroCells z.cells (cap-(n+m))).toList).toArray.size=cap*sz:=by
 simp only [List.size_toArray,List.length_append,Array.length_toList,size_zeroCells,h1,h2,h3,← Nat.add_mul]
 congr 1
 omega
theorem x4N {sz:Nat} {new:List (List V)} (h:x5m sz new=true):∀ r∈new,r.length=sz∧r.all zm=true:=by
 intro r hr
 unfold x5m at h
 rw [List.all_eq_true] at h
 have:=h r hr
 simpa using this
theorem xek {r:List V} (h:r.all x1h=true):r.all zm=true:=by
 rw [List.all_eq_true] at h ⊢
 intro v hv
 have:=h v hv
 cases v<;>simp_all [x1h,zm]
theorem xeC {h h':Heap} (R:Rel G h w) {t u ty e:TypeId} {sz base:Nat} {s x v:V} {rs rx:Value} {new:List (List V)} (ht:P.underlying t=some (.slice e))
  (hu:P.underlying u=some .string∨∃ e',P.underlying u=some (.slice e')) (hg:x2n P e=some sz) (hs:RepV G s rs) (hx:RepV G x rx) (hsrc:x30 sz h x=some new)
  (hv:x1D base h e sz s new=some (v,h')) :
  ∃ r w' G',(Builtin.append_ #[t,u] ty #[rs,rx]).run P w=.ok r w'∧Ext G G'∧Rel G' h' w'∧RepV G' v r∧Bel G w w':=by
 obtain ⟨i,z,hi,hz,rfl,hpos,hby,hzs⟩:=x3L hg
 obtain ⟨news,hnf,hlen,hfirst⟩:=x9W R hx hsrc
 have hnl:news.length=new.length*i.size:=hnf.1
 have hff:∀ w2:World,w2.heap=w.heap→(Builtin.firstCells i.size new.length rx).run P w2=.ok news.toArray w2:=by
  intro w2 h2
  have:=hfirst w2 new.length h2 (Nat.le_refl _)
  rwa [← hnl,List.take_length] at this
 unfold x1D at hv
 split at hv
 ·-- nothing is appended
  simp only [Option.map_eq_some_iff,Prod.mk.injEq] at hv
  obtain ⟨rows,hel,rfl,rfl⟩:=hv
  have hn0:news=[]:=List.eq_nil_of_length_eq_zero (by simpa using hnl)
  subst hn0
  obtain ⟨a,cap,olds,rfl,hlc,_,_⟩:=x8Y R hs hel
  refine ⟨_,w,G,x6m (n:=0) (news:=[]) ht hu hi (hlen w) (hff w rfl) hlc (fun b _=>rfl) (fun _=>rfl),Ext.refl G,R,hs,Bel.refl _ _⟩
 ·rename_i n0 nr
  generalize hnew:n0::nr=new at *
  have hnpos:0<new.length:=by rw [← hnew];simp
  clear hnew
  -- a new row
  have hfresh:∀ (rows:List (List V)) (a:Option Addr) (cap:Nat) (olds:List Value),rs=.slice a rows.length cap→x2j G i.size rows olds→(∀ r∈rows,r.all zm=true) →
    (∀ w2:World,w2.heap=w.heap→(Builtin.firstCells i.size rows.length (.slice a rows.length cap)).run P w2=.ok olds.toArray w2)→cap<rows.length+new.length →
    rows.length+new.length≤lim→x5m i.size new=true →
    ∃ r w',(Builtin.append_ #[t,u] ty #[rs,rx]).run P w=.ok r w'∧∃ cells cp,w'=(w.drew.alloc (.cells cells e (0,0)))∧cells.size=cp*i.size∧rows.length+new.length≤cp ∧
     x2A G i.size cells (rows++new)∧r=.slice (some ⟨w.heap.size,0,none⟩) (rows.length+new.length) cp:=by
   intro rows a cap olds hrs hfl hone hfo hroom hlim hok
   subst hrs
   have hok':=x4N hok
   have hrun:=x95 (P:=P) (w:=w) (ty:=ty) ht hu hi hz (hlen w) (hff w.drew rfl) (hfo w.drew rfl) hroom hby hlim
   refine ⟨_,_,hrun,_,grownCap w (rows.length+new.length) cap e,rfl,xei hfl.1 hnl hzs (grownCap_ge _ _ _ _),grownCap_ge _ _ _ _,?_,rfl⟩
   refine (hfl.append hnf).blk ?_
   intro r hr
   rcases List.mem_append.1 hr with hr | hr
   ·exact hone r hr
   ·exact (hok' r hr).2
  split at hv
  ·-- nil
   split at hv
   ·rename_i hc
    injection hv with hv
    simp only [Prod.mk.injEq] at hv
    obtain ⟨rfl,rfl⟩:=hv
    obtain rfl:=hs.sc_inv
    obtain ⟨r,w',hrun,cells,cp,rfl,hcs,hcp,hB,rfl⟩:=hfresh [] none 0 [] rfl ⟨by simp,by simp⟩ (by simp) (fun w2 _=>by simp [Builtin.firstCells]) (by simpa using hnpos) (by simpa using hc.1) hc.2
    simp only [List.length_nil,Nat.zero_add,List.nil_append] at hcp hB hrun
    refine ⟨_,_,_,hrun,Ext.newRow G ⟨0,i.size,w.heap.size,cp,new.length⟩,?_,?_,x4n R _⟩
    ·exact R.drew.newRow e hpos hcp hcs hB
    ·simp only [RepV]
     refine ⟨by simp [Tie.newRow,R.n],_,_,rfl,fun L hL=>?_⟩
     simp only [Tie.newRow,R.n,if_true,Option.some.injEq] at hL
     subst hL
     exact ⟨Nat.le_refl _,fun _=>⟨hcp,⟨by simp,by simpa using hcp⟩,fun _=>by simp⟩⟩
   ·simp at hv
  ·-- a literal
   rename_i ex zz rows
   split at hv
   ·rename_i hc
    simp only [Bool.and_eq_true,decide_eq_true_eq] at hc
    injection hv with hv
    simp only [Prod.mk.injEq] at hv
    obtain ⟨rfl,rfl⟩:=hv
    have hel:x5u i.size h (.slc ex zz rows)=some rows:=by
     unfold x5u
     simp only [hc.1.1.2,if_true]
    have hs':=hs
    simp only [RepV] at hs
    obtain ⟨a,cap,rfl,hl,hex,hgr,_⟩:=hs
    have hcap:=hex hc.1.1.1
    subst hcap
    obtain ⟨olds,hfl,_,hfo⟩:=x9W R hs' (sz:=i.size) (new:=rows) (by simpa [x30] using hel)
    have hone:∀ r∈rows,r.all zm=true:=fun r hr=>xek ((List.all_eq_true.1 hgr) r hr)
    obtain ⟨r,w',hrun,cells,cp,rfl,hcs,hcp,hB,rfl⟩:=hfresh rows a rows.length olds rfl hfl hone
     (fun w2 h2=>by have:=hfo w2 rows.length h2 (Nat.le_refl _);rwa [← hfl.1,List.take_length] at this) (by omega) hc.1.2 hc.2
    refine ⟨_,_,_,hrun,Ext.newRow G ⟨0,i.size,w.heap.size,cp,(rows++new).length⟩,?_,?_,x4n R _⟩
    ·exact R.drew.newRow e hpos (by simpa using hcp) hcs hB
    ·simp only [RepV]
     refine ⟨by simp [Tie.newRow,R.n],_,_,rfl,fun L hL=>?_⟩
     simp only [Tie.newRow,R.n,if_true,Option.some.injEq] at hL
     subst hL
     exact ⟨Nat.le_refl _,fun _=>⟨hcp,⟨by simp,by simpa using hcp⟩,fun _=>by simp⟩⟩
   ·simp at hv
  ·rename_i b ep len
   split at hv
   ·rename_i uu zz e' rows eq
    split at hv
    ·rename_i hc
     obtain ⟨rfl,rfl,rfl,hle,hlim,hok,hms⟩:=hc
     injection hv with hv
     simp only [Prod.mk.injEq] at hv
     obtain ⟨rfl,rfl⟩:=hv
     have hT:(if len=rows.length then rows.take len++new else rows.take len++new++rows.drop (len+new.length))=rows.take len++new++rows.drop (len+new.length):=by
      split
      ·rw [List.drop_eq_nil_of_le (by omega),List.append_nil]
      ·rfl
     rw [hT]
     have hs':=hs
     simp only [RepV] at hs
     obtain ⟨hb,a,cap,rfl,hLx⟩:=hs
     obtain ⟨_,L,cur,hL,hLe,hLs,hcp,hw,hsz,hB⟩:=R.row _ _ _ _ _ eq
     obtain ⟨_,hk2⟩:=hLx L hL
     obtain ⟨hlc,hoc,haa⟩:=hk2 hLe.symm
     simp only [Nat.zero_add,Nat.zero_mul] at hoc haa
     have hok':=x4N hok
     have hel:x5u i.size h (.hsl b e' 0 len)=some (rows.take len):=by
      unfold x5u rowAt
      simp [eq,hle]
     have htl:(rows.take len).length=len:=by simp;omega
     obtain ⟨olds,hfl,_,hfo⟩:=x9W R hs' (sz:=i.size) (new:=rows.take len) (by simpa [x30] using hel)
     have hone:∀ r∈rows.take len,r.all zm=true:=by
      intro r hr
      obtain ⟨k,hk⟩:=List.getElem?_of_mem (List.mem_of_mem_take hr)
      exact (hB k r hk).2.1
     by_cases hroom:len+new.length≤cap
     ·-- in its place
      have haddr:=haa (by omega)
      subst haddr
      have hcells:len*i.size+news.length≤cur.size:=by
       rw [hnl,hsz,← Nat.add_mul]
       exact Nat.mul_le_mul_right _ (by omega)
      have hst:=run_storeCells_at (P:=P) L.blk (len*i.size) uu news 0 cur w hw (by simpa using hcells) (hnf.one fun r hr=>(hok' r hr).2)
      simp only [Nat.add_zero] at hst
      have hrun:=x6m (P:=P) (w:=w) (ty:=ty) (a:=some ⟨L.blk,0,none⟩) (cap:=cap) ht hu hi (hlen w) (hff w rfl) hroom
       (fun b hb=>by injection hb with hb;subst hb;rw [x2g,Nat.zero_add];exact hst) (fun h=>by simp at h)
      have hTl:(rows.take len++new++rows.drop (len+new.length)).length≤cap:=by
       simp only [List.length_append,htl,List.length_drop]
       omega
      refine ⟨_,_,G.setRow b { L with e:=e'+1,vis:=(rows.take len++new++rows.drop (len+new.length)).length },hrun,Ext.setRow G b L _ hL (by simp;omega) (by simp;omega),?_,?_,x4H R (b:=b) (by unfold Tie.real;rw [eq];simp [hL]) _⟩
      ·refine R.setRowAt (L':={ L with e:=e'+1,vis:=(rows.take len++new++rows.drop (len+new.length)).length }) eq hL (by simp;omega) (by simp;omega) rfl hLs ⟨by show _≤L.cp;omega,rfl⟩ (.inl rfl) (by simp) (fun c hc _=>setRow_other w _ _ _ hc) (setRow_heap w _ _ _ _ _ hw) ?_ ?_
       ·simp only [List.size_toArray,List.length_append,List.length_take,List.length_drop,Array.length_toList]
        rw [← hsz]
        omega
       ·intro k cs hk
        rw [getElem?_putE _ _ _ _ hle] at hk
        split at hk
        ·rename_i hin
         obtain ⟨h1,h3⟩:=hnf.2 _ cs hk
         refine ⟨h1,(hok' cs (List.mem_of_getElem? hk)).2,fun j c hj=>?_⟩
         obtain ⟨v,h4,h5⟩:=h3 j c hj
         refine ⟨v,?_,h5⟩
         have hjl:=(List.getElem?_eq_some_iff.1 hj).1
         have hge:len*i.size≤k*i.size:=Nat.mul_le_mul_right _ hin.1
         have hsub:(k-len)*i.size=k*i.size-len*i.size:=Nat.sub_mul _ _ _
         have hlt:=(List.getElem?_eq_some_iff.1 h4).1
         rw [List.getElem?_toArray,getElem?_put _ _ _ _ (by simp;omega),if_pos (by omega),show k*i.size+j-len*i.size=(k-len)*i.size+j by omega]
         exact h4
        ·rename_i hout
         obtain ⟨h1,h2,h3⟩:=hB k cs hk
         refine ⟨h1,h2,fun j c hj=>?_⟩
         obtain ⟨v,h4,h5⟩:=h3 j c hj
         refine ⟨v,?_,h5⟩
         have hjl:j<i.size:=by rw [← h1];exact (List.getElem?_eq_some_iff.1 hj).1
         rw [List.getElem?_toArray,getElem?_put _ _ _ _ (by simp;omega),if_neg,Array.getElem?_toList]
         ·exact h4
         ·intro hq
          by_cases hkl:k<len
          ·have:(k+1)*i.size≤len*i.size:=Nat.mul_le_mul_right _ (by omega)
           rw [Nat.add_mul] at this
           omega
          ·have:(len+new.length)*i.size≤k*i.size:=Nat.mul_le_mul_right _ (by omega)
           rw [Nat.add_mul,← hnl] at this
           omega
      ·simp only [RepV]
       refine ⟨hb,_,_,rfl,fun L' hL'=>?_⟩
       simp only [Tie.setRow,if_true,Option.some.injEq] at hL'
       subst hL'
       exact ⟨Nat.le_refl _,fun _=>⟨hroom,⟨by simpa using hoc.1,by rw [Nat.zero_add];exact hTl⟩,fun _=>by simp⟩⟩
     ·-- at a new place
      obtain ⟨r,w',hrun,cells,cp,rfl,hcs,hcp',hB',rfl⟩:=hfresh (rows.take len) (some a) cap olds (by rw [htl]) hfl hone
       (fun w2 h2=>by have:=hfo w2 len h2 (by omega);rw [htl];rwa [← htl,← hfl.1,List.take_length,htl] at this) (by omega) (by omega) hok
      rw [htl] at hcp'
      rw [List.drop_eq_nil_of_le (by omega),List.append_nil]
      refine ⟨_,_,G.setRow b ⟨e'+1,i.size,w.heap.size,cp,(rows.take len++new).length⟩,hrun,Ext.setRow G b L _ hL (by simp;omega) (by simp;omega),?_,?_,x4n R _⟩
      ·exact R.drew.setRowAt (L':=⟨e'+1,i.size,w.heap.size,cp,(rows.take len++new).length⟩) eq hL (by simp;omega) (by simp;omega) rfl rfl ⟨by simp;omega,rfl⟩ (.inr rfl) (by simp) (fun c _ hc=>x2m _ _ _ hc)
        (x3j w.drew _) hcs hB'
      ·simp only [RepV,htl]
       refine ⟨hb,_,_,rfl,fun L' hL'=>?_⟩
       simp only [Tie.setRow,if_true,Option.some.injEq] at hL'
       subst hL'
       exact ⟨Nat.le_refl _,fun _=>⟨hcp',⟨by simp,by simp;omega⟩,fun _=>by simp⟩⟩
    ·simp at hv
   ·simp at hv
  ·simp at hv
theorem x2j.take {sz:Nat} {rows:List (List V)} {rs:List Value} (h:x2j G sz rows rs) {k:Nat} (hk:k≤rows.length):x2j G sz (rows.take k) (rs.take (k*sz)):=by
 have hm:k*sz≤rows.length*sz:=Nat.mul_le_mul_right _ hk
 refine ⟨by rw [List.length_take,List.length_take,h.1,Nat.min_eq_left hk,Nat.min_eq_left hm],fun i cs hi=>?_⟩
 rw [List.getElem?_take] at hi
 split at hi
 ·rename_i hik
  obtain ⟨h1,h2⟩:=h.2 i cs hi
  refine ⟨h1,fun j c hj=>?_⟩
  obtain ⟨v,h3,h4⟩:=h2 j c hj
  refine ⟨v,?_,h4⟩
  have hjl:j<sz:=by rw [← h1];exact (List.getElem?_eq_some_iff.1 hj).1
  have:(i+1)*sz≤k*sz:=Nat.mul_le_mul_right _ hik
  rw [Nat.add_mul] at this
  rw [List.getElem?_take,if_pos (by omega)]
  exact h3
 ·simp at hi
theorem x9k {d:V} {rd:Value} {m:Nat} (hd:RepV G d rd) (hm:zk d=some m):∃ a cap,rd=.slice a m cap:=by
 unfold zk at hm
 split at hm
 ·injection hm with hm
  subst hm
  simp only [RepV] at hd
  obtain ⟨a,cap,rfl,_⟩:=hd
  exact ⟨a,cap,rfl⟩
 ·injection hm with hm
  subst hm
  simp only [RepV] at hd
  obtain ⟨_,a,cap,rfl,_⟩:=hd
  exact ⟨_,cap,rfl⟩
 ·injection hm with hm
  subst hm
  exact ⟨_,_,hd.sc_inv⟩
 ·simp at hm
theorem xdi {t u ty e:TypeId} {i:TypeInfo} {a:Option Addr} {m cap n:Nat} {rx:Value} {cells:List Value} {w':World} (ht:P.underlying t=some (.slice e)) (hi:P.info? e=some i)
  (hl:(Builtin.lenOf rx).run P w=.ok n w) (hc:(Builtin.firstCells i.size (min n m) rx).run P w=.ok cells.toArray w)
  (hst:∀ b,a=some b→(storeCells b cells 0).run P w=.ok () w') (hnone:a=none→w'=w) :
  (Builtin.copy_ #[t,u] ty #[.slice a m cap,rx]).run P w=.ok (goInt ((min n m:Nat):Int)) w':=by
 have hmin:Nat.min n m=min n m:=rfl
 cases a with
 | none =>
  have:=hnone rfl
  subst this
  simp [Builtin.copy_,run_underlying ht,hl,sizeOf,typeInfo,hi,hmin,hc]
 | some b =>
  have:=hst b rfl
  simp [Builtin.copy_,run_underlying ht,hl,sizeOf,typeInfo,hi,hmin,hc,this]
theorem xie {h h':Heap} (R:Rel G h w) {t u ty e:TypeId} {sz base k:Nat} {d x:V} {rd rx:Value} {new:List (List V)} (ht:P.underlying t=some (.slice e)) (hg:x2n P e=some sz)
  (hd:RepV G d rd) (hx:RepV G x rx) (hn:x30 sz h x=some new) (hs:x9c base h sz d new=some (k,h')) :
  ∃ w',(Builtin.copy_ #[t,u] ty #[rd,rx]).run P w=.ok (goInt k) w'∧Rel G h' w'∧Bel G w w':=by
 obtain ⟨i,z,hi1,hz1,rfl,hpos,_,hzs⟩:=x3L hg
 obtain ⟨news,hflat,hlen,hfirst⟩:=x9W (P:=P) R hx hn
 unfold x9c at hs
 split at hs
 ·simp at hs
 ·rename_i m hm
  obtain ⟨a,cap,rfl⟩:=x9k hd hm
  split at hs
  ·rename_i h0
   simp only [Option.some.injEq,Prod.mk.injEq] at hs
   obtain ⟨rfl,rfl⟩:=hs
   refine ⟨w,?_,R,Bel.refl _ _⟩
   have:=xdi (P:=P) (w:=w) (w':=w) (u:=u) (ty:=ty) (a:=a) (m:=m) (cap:=cap) (cells:=[]) ht hi1 (hlen w) (by rw [h0,hfirst w 0 rfl (Nat.zero_le _)];simp) (fun b _=>by simp [storeCells]) (fun _=>rfl)
   rwa [h0] at this
  ·rename_i hne
   split at hs
   ·rename_i b ep off len
    simp only [zk,Option.some.injEq] at hm
    subst hm
    split at hs
    ·rename_i ty' z' e' rows eq
     split at hs
     ·rename_i hc
      obtain ⟨rfl,rfl,hol,hok,_⟩:=hc
      simp only [Option.some.injEq,Prod.mk.injEq] at hs
      obtain ⟨rfl,rfl⟩:=hs
      obtain ⟨_,L,rs,hL,hLe,hLs,hcp,hw,hsz,hB⟩:=R.row _ _ _ _ _ eq
      simp only [RepV] at hd
      obtain ⟨hb,a',cap',hr,hLx⟩:=hd
      simp only [Value.slice.injEq] at hr
      obtain ⟨rfl,_,rfl⟩:=hr
      obtain ⟨h1,h2⟩:=hLx L hL
      obtain ⟨h3,h4,h5⟩:=h2 hLe.symm
      have ha:=h5 (by omega)
      rw [hLs] at ha
      subst ha
      have hkl:min new.length len≤new.length:=Nat.min_le_left _ _
      have hkl2:min new.length len≤len:=Nat.min_le_right _ _
      have hfl:=hflat.take hkl
      have hone:=hfl.one fun r hr=>(x4N hok r hr).2
      have hfc:=hfirst w (min new.length len) rfl hkl
      generalize hk:min new.length len=k at hne hok hkl hkl2 hfl hone hfc ⊢
      have htl:(new.take k).length=k:=by rw [List.length_take];omega
      have hcl:(news.take (k*i.size)).length=k*i.size:=by rw [hfl.1,htl]
      have hroom:(off+k)*i.size≤L.cp*i.size:=Nat.mul_le_mul_right _ (by omega)
      rw [Nat.add_mul] at hroom
      have hstore:=run_storeCells_at (P:=P) L.blk (off*i.size) ty' (news.take (k*i.size)) 0 rs w hw (by rw [hcl,hsz];omega) hone
      have hrun:=xdi (P:=P) (w:=w) (u:=u) (ty:=ty) (a:=some ⟨L.blk,off*i.size,none⟩) (m:=len) (cap:=cap) (cells:=news.take (k*i.size)) ht hi1 (hlen w) (by rw [hk];exact hfc) (fun b hb=>by
       injection hb with hb
       subst hb
       exact hstore) (by simp)
      rw [hk] at hrun
      refine ⟨_,hrun,?_,x4H R (b:=b) (by unfold Tie.real;rw [eq];simp [hL]) _⟩
      have:=R.setRowAt (rows':=rows.take off++new.take k++rows.drop (off+(new.take k).length)) (L':=L) (w':=w.setRow L.blk (rs.toList.take (off*i.size+0)++news.take (k*i.size)++rs.toList.drop (off*i.size+0+(news.take (k*i.size)).length)).toArray)
       (rs':=(rs.toList.take (off*i.size+0)++news.take (k*i.size)++rs.toList.drop (off*i.size+0+(news.take (k*i.size)).length)).toArray)
       eq hL (Nat.le_refl _) (fun _=>rfl) hLe hLs (by
        simp only [List.length_append,List.length_take,List.length_drop]
        omega) (.inl rfl) (by simp) (fun c hc _=>setRow_other w _ _ _ hc) (setRow_heap w _ _ _ _ _ hw)
       (by
        simp only [List.size_toArray,List.length_append,List.length_take,List.length_drop,Array.length_toList,hsz,hflat.1]
        have:k*i.size≤new.length*i.size:=Nat.mul_le_mul_right _ hkl
        omega) ?_
      ·rwa [Tie.setRow_same hL] at this
      ·intro i' cs hi'
       rw [getElem?_put _ _ _ _ (by rw [htl];omega),htl] at hi'
       have hget:∀ p,(rs.toList.take (off*i.size+0)++news.take (k*i.size)++rs.toList.drop (off*i.size+0+(news.take (k*i.size)).length)).toArray[p]? =
         if off*i.size≤p∧p<off*i.size+k*i.size then (news.take (k*i.size))[p-off*i.size]? else rs[p]?:=by
        intro p
        rw [List.getElem?_toArray,Nat.add_zero,getElem?_put _ _ _ _ (by rw [hcl];simp only [Array.length_toList];omega),hcl,Array.getElem?_toList (xs:=rs)]
       split at hi'
       ·rename_i hin
        obtain ⟨q1,q2⟩:=hfl.2 _ cs hi'
        refine ⟨q1,(x4N hok cs (List.mem_of_getElem? hi')).2,fun j c hj=>?_⟩
        obtain ⟨v,q3,q4⟩:=q2 j c hj
        refine ⟨v,?_,q4⟩
        have hjl:j<i.size:=by rw [← q1];exact (List.getElem?_eq_some_iff.1 hj).1
        have m1:off*i.size≤i'*i.size:=Nat.mul_le_mul_right _ hin.1
        have m2:(i'+1)*i.size≤(off+k)*i.size:=Nat.mul_le_mul_right _ hin.2
        have m3:(i'-off)*i.size=i'*i.size-off*i.size:=Nat.sub_mul _ _ _
        rw [Nat.add_mul,Nat.add_mul] at m2
        rw [hget,if_pos (by omega),show i'*i.size+j-off*i.size=(i'-off)*i.size+j by omega]
        exact q3
       ·rename_i hout
        obtain ⟨q1,q2,q3⟩:=hB _ cs hi'
        refine ⟨q1,q2,fun j c hj=>?_⟩
        obtain ⟨v,q4,q5⟩:=q3 j c hj
        refine ⟨v,?_,q5⟩
        have hjl:j<i.size:=by rw [← q1];exact (List.getElem?_eq_some_iff.1 hj).1
        rw [hget,if_neg]
        ·exact q4
        ·rintro ⟨b1,b2⟩
         rcases Nat.lt_or_ge i' off with hlt | hge
         ·have:(i'+1)*i.size≤off*i.size:=Nat.mul_le_mul_right _ hlt
          rw [Nat.add_mul] at this
          omega
         ·have:(off+k)*i.size≤i'*i.size:=Nat.mul_le_mul_right _ (by omega)
          rw [Nat.add_mul] at this
          omega
     ·simp at hs
    ·simp at hs
   ·simp at hs
theorem xeu {h:Heap} (R:Rel G h w) {sz b ep off len:Nat} {ty':TypeId} {rows:List (List V)} {new:List (List V)} {news:List Value} {rd:Value} (hfl:x2j G sz new news) (hd:RepV G (.hsl b ep off len) rd) (eq:h[b]?=some (.row ty' sz ep rows)) (hol:off+len≤rows.length)
  (hok:x5m sz new=true) (hne:new.length≠0) (hkl2:new.length≤len) :
  ∃ a cap w',rd=.slice (some a) len cap∧(storeCells a news 0).run P w=.ok () w'∧Rel G (h.set b (.row ty' sz ep (rows.take off++new++rows.drop (off+new.length)))) w'∧Bel G w w':=by
 obtain ⟨_,L,rs,hL,hLe,hLs,hcp,hw,hsz,hB⟩:=R.row _ _ _ _ _ eq
 simp only [RepV] at hd
 obtain ⟨hb,a',cap',hr,hLx⟩:=hd
 obtain ⟨h1,h2⟩:=hLx L hL
 obtain ⟨h3,h4,h5⟩:=h2 hLe.symm
 have ha:=h5 (by omega)
 rw [hLs] at ha
 subst ha
 have hone:=hfl.one fun r hr=>(x4N hok r hr).2
 generalize hk:new.length=k at hne hkl2
 have hcl:news.length=k*sz:=by rw [hfl.1,hk]
 have hroom:(off+k)*sz≤L.cp*sz:=Nat.mul_le_mul_right _ (by omega)
 rw [Nat.add_mul] at hroom
 have hstore:=run_storeCells_at (P:=P) L.blk (off*sz) ty' news 0 rs w hw (by rw [hcl,hsz];omega) hone
 refine ⟨_,cap',_,hr,hstore,?_,x4H R (b:=b) (by unfold Tie.real;rw [eq];simp [hL]) _⟩
 have:=R.setRowAt (rows':=rows.take off++new++rows.drop (off+k)) (L':=L) (w':=w.setRow L.blk (rs.toList.take (off*sz+0)++news++rs.toList.drop (off*sz+0+news.length)).toArray)
  (rs':=(rs.toList.take (off*sz+0)++news++rs.toList.drop (off*sz+0+news.length)).toArray)
  eq hL (Nat.le_refl _) (fun _=>rfl) hLe hLs (by
   simp only [List.length_append,List.length_take,List.length_drop]
   omega) (.inl rfl) (by simp) (fun c hc _=>setRow_other w _ _ _ hc) (setRow_heap w _ _ _ _ _ hw)
  (by
   simp only [List.size_toArray,List.length_append,List.length_take,List.length_drop,Array.length_toList,hsz,hcl]
   omega) ?_
 ·rwa [Tie.setRow_same hL] at this
 ·intro i' cs hi'
  rw [← hk] at hi'
  rw [getElem?_put _ _ _ _ (by omega),hk] at hi'
  have hget:∀ p,(rs.toList.take (off*sz+0)++news++rs.toList.drop (off*sz+0+news.length)).toArray[p]? =
    if off*sz≤p∧p<off*sz+k*sz then news[p-off*sz]? else rs[p]?:=by
   intro p
   rw [List.getElem?_toArray,Nat.add_zero,getElem?_put _ _ _ _ (by rw [hcl];simp only [Array.length_toList];omega),hcl,Array.getElem?_toList (xs:=rs)]
  split at hi'
  ·rename_i hin
   obtain ⟨q1,q2⟩:=hfl.2 _ cs hi'
   refine ⟨q1,(x4N hok cs (List.mem_of_getElem? hi')).2,fun j c hj=>?_⟩
   obtain ⟨v,q3,q4⟩:=q2 j c hj
   refine ⟨v,?_,q4⟩
   have hjl:j<sz:=by rw [← q1];exact (List.getElem?_eq_some_iff.1 hj).1
   have m1:off*sz≤i'*sz:=Nat.mul_le_mul_right _ hin.1
   have m2:(i'+1)*sz≤(off+k)*sz:=Nat.mul_le_mul_right _ hin.2
   have m3:(i'-off)*sz=i'*sz-off*sz:=Nat.sub_mul _ _ _
   rw [Nat.add_mul,Nat.add_mul] at m2
   rw [hget,if_pos (by omega),show i'*sz+j-off*sz=(i'-off)*sz+j by omega]
   exact q3
  ·rename_i hout
   obtain ⟨q1,q2,q3⟩:=hB _ cs hi'
   refine ⟨q1,q2,fun j c hj=>?_⟩
   obtain ⟨v,q4,q5⟩:=q3 j c hj
   refine ⟨v,?_,q5⟩
   have hjl:j<sz:=by rw [← q1];exact (List.getElem?_eq_some_iff.1 hj).1
   rw [hget,if_neg]
   ·exact q4
   ·rintro ⟨b1,b2⟩
    rcases Nat.lt_or_ge i' off with hlt | hge
    ·have:(i'+1)*sz≤off*sz:=Nat.mul_le_mul_right _ hlt
     rw [Nat.add_mul] at this
     omega
    ·have:(off+k)*sz≤i'*sz:=Nat.mul_le_mul_right _ (by omega)
     rw [Nat.add_mul] at this
     omega
theorem x9O {z:Array Value} {n k:Nat} (hk:k<n*z.size):(Builtin.zeroCells z n).toList[k]?=z.toList[k%z.size]?:=by
 have hz:0<z.size:=by
  rcases Nat.eq_zero_or_pos z.size with e | e
  ·rw [e] at hk;simp at hk
  ·exact e
 have hm:=Nat.mod_lt k hz
 rw [Array.getElem?_toList,Array.getElem?_toList]
 simp [Builtin.zeroCells,hk,hm]
theorem xdp {z:Array Value} {zs:List V} {n:Nat} (hz:RepL G zs z.toList):x2j G zs.length (List.replicate n zs) (Builtin.zeroCells z n).toList:=by
 have hl:z.size=zs.length:=by have:=hz.length;simpa using this
 refine ⟨by simp [Builtin.zeroCells,hl],fun i cs hi=>?_⟩
 rw [List.getElem?_replicate] at hi
 split at hi
 ·rename_i hin
  injection hi with hi
  subst hi
  refine ⟨rfl,fun j c hj=>?_⟩
  obtain ⟨v,hv,hr⟩:=hz.get hj
  have hjl:j<zs.length:=(List.getElem?_eq_some_iff.1 hj).1
  have hlt:i*zs.length+j<n*z.size:=by
   rw [hl]
   have:(i+1)*zs.length≤n*zs.length:=Nat.mul_le_mul_right _ hin
   rw [Nat.add_mul] at this
   omega
  refine ⟨v,?_,hr⟩
  rw [x9O hlt,hl,show (i*zs.length+j)%zs.length=j by rw [Nat.mul_comm,Nat.mul_add_mod];exact Nat.mod_eq_of_lt hjl]
  exact hv
 ·simp at hi
theorem xgw {h h':Heap} (R:Rel G h w) {t ty e:TypeId} {sz base k n:Nat} {d:V} {zs:List V} {rd:Value} (ht:P.underlying t=some (.slice e)) (hg:x2n P e=some sz) (hz:x5y P e=some zs)
  (hd:RepV G d rd) (hn:zk d=some n) (hs:x9c base h sz d (List.replicate n zs)=some (k,h')) :
  ∃ w',(Builtin.clear_ #[t] ty #[rd]).run P w=.ok (.tuple #[]) w'∧Rel G h' w'∧Bel G w w':=by
 simp only [x5y,Option.bind_eq_some_iff] at hz
 obtain ⟨z,⟨i,hi,hzz⟩,hsc⟩:=hz
 obtain ⟨a,cap,rfl⟩:=x9k hd hn
 unfold x9c at hs
 rw [hn] at hs
 simp only [List.length_replicate,Nat.min_self] at hs
 split at hs
 ·rename_i h0
  subst h0
  simp only [Option.some.injEq,Prod.mk.injEq] at hs
  obtain ⟨_,rfl⟩:=hs
  refine ⟨w,?_,R,Bel.refl _ _⟩
  cases a<;>simp [Builtin.clear_,run_underlying ht]
 ·rename_i hne
  split at hs
  ·rename_i b ep off len
   simp only [zk,Option.some.injEq] at hn
   subst hn
   split at hs
   ·rename_i ty' z' e' rows eq
    split at hs
    ·rename_i hc
     obtain ⟨rfl,rfl,hol,hok,_⟩:=hc
     simp only [Option.some.injEq,Prod.mk.injEq] at hs
     obtain ⟨rfl,rfl⟩:=hs
     have htk:(List.replicate len zs).take (min (List.replicate len zs).length len)=List.replicate len zs:=by simp
     simp only [List.length_replicate,Nat.min_self] at htk hok ⊢
     have hfl:=xdp (G:=G) (n:=len) (x3V (G:=G) hsc)
     have hzl:zs.length=z':=by
      have hp:=x4N hok zs (by rw [htk];exact List.mem_replicate.2 ⟨hne,rfl⟩)
      exact hp.1
     rw [hzl] at hfl
     rw [htk] at hok ⊢
     obtain ⟨a2,cap2,w',hr,hst,hR,hB⟩:=xeu (P:=P) R hfl hd eq hol hok (by simpa using hne) (by simp)
     injection hr with hr1 hr2 hr3
     subst hr1
     refine ⟨w',?_,hR,hB⟩
     cases len with
     | zero=>exact absurd rfl hne
     | succ m=>simp [Builtin.clear_,run_underlying ht,zeroValue,typeInfo,hi,hzz,hst]
    ·simp at hs
   ·simp at hs
  ·simp at hs
end
end
section
section
variable {P:Program} {G:Tie} {w:World}
def All2 {α β:Type} (R:α→β→Prop):List α→List β→Prop
 | [],bs=>bs=[]
 | a::as,bs=>∃ b rest,bs=b::rest∧R a b∧All2 R as rest
theorem xd5:∀ (vs:List Value) (k off:Nat) (cells:Array Value),off+k+vs.length≤cells.size →
  ((vs.zipIdx k).foldl (fun cs p=>cs.setIfInBounds (off+p.2) p.1) cells).toList=cells.toList.take (off+k)++vs++cells.toList.drop (off+k+vs.length)
 | [],k,off,cells,_=>by simp
 | v::vs,k,off,cells,h=>by
  simp only [List.length_cons] at h
  simp only [List.zipIdx_cons,List.foldl_cons]
  rw [xd5 vs (k+1) off _ (by simp;omega)]
  have e:=list_seg_step cells.toList (off+k) v vs (by simp;omega)
  simp only [Array.toList_setIfInBounds,List.length_cons]
  rw [show off+(k+1)=off+k+1 by omega]
  exact e
theorem xb9 (vs:Array Value) (off:Nat) (cells:Array Value) (h:off+vs.size≤cells.size) :
  (vs.zipIdx.foldl (fun cs (p:Value×Nat)=>cs.setIfInBounds (off+p.2) p.1) cells).toList=cells.toList.take off++vs.toList++cells.toList.drop (off+vs.toList.length):=by
 rw [← Array.foldl_toList,Array.toList_zipIdx]
 have:=xd5 vs.toList 0 off cells (by simpa using h)
 simpa using this
theorem x5J (place:Nat→Option (Nat×Nat)):∀ {ps:List (Nat×Nat×V)} {rs:List (Nat×Value)} {zs cs:List V} {cells:Array Value},RepL G zs cells.toList→x0q zs ps=some cs →
  All2 (fun p r=>place r.1=some (p.1,p.2.1)∧RepV G p.2.2 r.2) ps rs→∃ cells',Instr.fill place cells rs=some cells'∧RepL G cs cells'.toList
 | [],rs,zs,cs,cells,hz,h,hf=>by
  simp only [All2] at hf
  subst hf
  simp only [x0q,Option.some.injEq] at h
  subst h
  exact ⟨cells,rfl,hz⟩
 | (off,sz,v)::ps,rs,zs,cs,cells,hz,h,hf=>by
  simp only [All2] at hf
  obtain ⟨⟨i,rv⟩,rs,rfl,⟨hp,hv⟩,hf⟩:=hf
  ·simp only at hp hv
   unfold x0q at h
   split at h
   ·rename_i hc
    obtain ⟨hl,hone,hle⟩:=hc
    have hvu:v≠.undef:=by
     rintro rfl
     simp [V.cells,zm] at hone
    have hcells:=hv.cells hvu
    have hsz:rv.cells.size=sz:=by rw [← Array.length_toList,hcells.length,hl]
    have hzl:cells.size=zs.length:=by rw [← Array.length_toList,hz.length]
    have hput:=hz.put (off:=off) hcells
    unfold Instr.fill
    simp only [hp]
    rw [if_neg (by simp [hsz];omega)]
    refine x5J place ?_ h hf
    rw [xb9 _ _ _ (by omega)]
    exact hput
   ·simp at h
theorem x7W {sz n:Nat}:∀ {ps:List (Nat×V)} {rs:List (Nat×Value)} {zs cs:List (List V)} {cells:Array Value},x2j G sz zs cells.toList→zv sz zs ps=some cs →
  All2 (fun p r=>p.1=r.1∧RepV G p.2 r.2) ps rs→∃ cells',Instr.fill (fun i=>some (i*sz,sz)) cells rs=some cells'∧x2j G sz cs cells'.toList
 | [],rs,zs,cs,cells,hz,h,hf=>by
  simp only [All2] at hf
  subst hf
  simp only [zv,Option.some.injEq] at h
  subst h
  exact ⟨cells,rfl,hz⟩
 | (i,v)::ps,rs,zs,cs,cells,hz,h,hf=>by
  simp only [All2] at hf
  obtain ⟨⟨i',rv⟩,rs,rfl,⟨hii,hv⟩,hf⟩:=hf
  ·simp only at hii hv
   subst hii
   unfold zv at h
   split at h
   ·rename_i hc
    obtain ⟨hl,hone,hlt⟩:=hc
    have hvu:v≠.undef:=by
     rintro rfl
     simp [V.cells,zm] at hone
    have hcells:=hv.cells hvu
    have hsz:rv.cells.size=sz:=by rw [← Array.length_toList,hcells.length,hl]
    have hzl:cells.size=zs.length*sz:=by rw [← Array.length_toList,hz.1]
    have hroom:i*sz+sz≤cells.size:=x9Z hzl (Nat.le_refl _) hlt
    unfold Instr.fill
    simp only
    rw [if_neg (by simp [hsz];omega)]
    refine x7W (n:=n) ?_ h hf
    rw [xb9 _ _ _ (by omega)]
    have hrl:rv.cells.toList.length=sz:=by simpa using hsz
    refine ⟨by rw [List.length_append,List.length_append,List.length_take,List.length_drop,Array.length_toList,hrl,List.length_set,Nat.min_eq_left (by omega)];omega,fun k cs' hk=>?_⟩
    by_cases e:k=i
    ·subst e
     rw [List.getElem?_set_self hlt] at hk
     injection hk with hk
     subst hk
     refine ⟨hl,fun j c hj=>?_⟩
     obtain ⟨u,h2,h3⟩:=hcells.get hj
     have hjl:=(List.getElem?_eq_some_iff.1 hj).1
     refine ⟨u,?_,h3⟩
     rw [getElem?_put _ _ _ _ (by simp [hrl];omega),if_pos (by omega),show k*sz+j-k*sz=j by omega]
     exact h2
    ·rw [List.getElem?_set_ne (by omega)] at hk
     obtain ⟨h2,h3⟩:=hz.2 k cs' hk
     refine ⟨h2,fun j c hj=>?_⟩
     obtain ⟨u,h4,h5⟩:=h3 j c hj
     have hjl:=(List.getElem?_eq_some_iff.1 hj).1
     refine ⟨u,?_,h5⟩
     rw [getElem?_put _ _ _ _ (by simp [hrl];omega),if_neg]
     ·exact h4
     ·intro hh
      obtain ⟨hh1,hh2⟩:=hh
      have:=xa0 (sz:=sz) (i:=k) (j:=j) (i':=i) (j':=k*sz+j-i*sz) (by omega) (by omega) (by omega)
      exact e this.1
   ·simp at h
theorem xaO {sz n:Nat} {z:Array Value} {zs:List V} (hz:x7v z.toList=some zs) (hs:z.size=sz):x2j G sz (List.replicate n zs) (madeCells z (n*sz)).toList:=by
 have hrep:RepL G zs z.toList:=x3V hz
 refine ⟨by simp [size_madeCells],fun i cs hi=>?_⟩
 rw [List.getElem?_replicate] at hi
 split at hi
 ·rename_i hlt
  injection hi with hi
  subst hi
  have hzl:zs.length=sz:=by rw [← hrep.length];simpa using hs
  refine ⟨hzl,fun j c hj=>?_⟩
  obtain ⟨u,h1,h2⟩:=hrep.get hj
  have hjl:=(List.getElem?_eq_some_iff.1 hj).1
  refine ⟨u,?_,h2⟩
  have hb:i*sz+j<n*sz:=by
   have:(i+1)*sz≤n*sz:=Nat.mul_le_mul_right _ (by omega)
   rw [Nat.add_mul] at this
   omega
  have hm:(i*sz+j)%z.size=j:=by
   rw [hs,Nat.mul_comm,Nat.mul_add_mod,Nat.mod_eq_of_lt (by omega)]
  rw [Array.getElem?_toList] at h1 ⊢
  unfold madeCells
  simp only [Array.getElem?_map,Array.getElem?_range,hb,if_true,Option.map_some,hm]
  rw [getElem!_pos z j (by omega)]
  have:=(Array.getElem?_eq_some_iff.1 h1).2
  rw [this]
 ·simp at hi
def Tie.newFz (G:Tie) (k:Nat) (cells:Array Value):Tie:={ G with fz:=fun b o=>if b=k then cells[o]? else G.fz b o }
theorem Ext.newFz {G:Tie} {h:Heap} {w:World} (R:Rel G h w) (cells:Array Value):Ext G (G.newFz w.heap.size cells) where
 fz b o v hv:=by
  simp only [Tie.newFz]
  rw [if_neg]
  ·exact hv
  ·rintro rfl
   rw [R.fz_new] at hv
   simp at hv
 n:=Nat.le_refl _
 bx _ _:=rfl
 rw _ _ L h:=⟨L,h,Nat.le_refl _,fun _=>rfl⟩
 b0:=rfl
 kp:=rfl
theorem Rel.newFz {G:Tie} {h:Heap} {w:World} (R:Rel G h w) (cells:Array Value) (ty:TypeId) (fr:Nat×Nat):Rel (G.newFz w.heap.size cells) h (w.alloc (.cells cells ty fr)):=by
 have x:=Ext.newFz R cells
 have R':=R.world (w':=w.alloc (.cells cells ty fr)) (by simp) (fun k hk=>x2m _ _ _ hk)
 have hreal:∀ b,(G.newFz w.heap.size cells).real h b=G.real h b:=fun _=>rfl
 refine ⟨R.n,?_,?_,?_,?_,?_,?_,R'.hb0,fun c hc=>?_⟩
 ·intro b o v hv
  simp only [Tie.newFz] at hv
  split at hv
  ·rename_i e
   subst e
   unfold World.cell?
   rw [x3j]
   simpa using hv
  ·exact R'.fz b o v hv
 ·intro b t cs e
  obtain ⟨h1,rs,h2,h3⟩:=R'.box b t cs e
  exact ⟨h1,rs,h2,h3.ext x⟩
 ·intro b t sz e rows eq
  obtain ⟨h0,L,rs,h1,h2,h3,h4,h5,h6,h7⟩:=R'.row b t sz e rows eq
  exact ⟨h0,L,rs,h1,h2,h3,h4,h5,h6,h7.ext x⟩
 ·intro b es e
  obtain ⟨l,clock,h1,h2⟩:=R'.mp b es e
  exact ⟨l,clock,h1,h2.ext x⟩
 ·intro b k hk
  rw [hreal] at hk
  refine ⟨(R.low b k hk).1,fun o=>?_⟩
  simp only [Tie.newFz]
  have:=R.lt hk
  rw [if_neg (by omega)]
  exact (R.low b k hk).2 o
 ·intro b b' k h1 h2
  exact R.inj b b' k h1 h2
 ·obtain ⟨k1,k2,k3⟩:=R'.kp c hc
  refine ⟨k1,fun o=>?_,k3⟩
  simp only [Tie.newFz]
  have:=(R.kp c hc).1
  rw [if_neg (by omega)]
  exact k2 o
theorem Rel.newSlc {G:Tie} {h:Heap} {w:World} (R:Rel G h w) {ex:Cp} {sz:Nat} {rows:List (List V)} {cells:List Value} {rest:List Value} {cap:Nat} (hf:x2j G sz rows cells) (hg:(rows.all fun r=>r.all x1h)=true)
  (hc:rows.length≤cap) (hex:ex.isFull=true→cap=rows.length) (ty:TypeId) (fr:Nat×Nat) :
  Rel (G.newFz w.heap.size (cells++rest).toArray) h (w.alloc (.cells (cells++rest).toArray ty fr))∧RepV (G.newFz w.heap.size (cells++rest).toArray) (.slc ex sz rows) (.slice (some ⟨w.heap.size,0,none⟩) rows.length cap):=by
 refine ⟨R.newFz _ ty fr,?_⟩
 have x:=Ext.newFz R (cells++rest).toArray
 simp only [RepV]
 refine ⟨_,_,rfl,hc,hex,hg,w.heap.size,0,fun _=>rfl,fun _ _=>R.hb0,x0T.of_get fun i cs hi=>?_⟩
 obtain ⟨h1,h2⟩:=hf.2 i cs hi
 refine ⟨h1,RepF.of_get fun j c hj=>?_⟩
 obtain ⟨v,h3,h4⟩:=h2 j c hj
 refine ⟨v,?_,h4.ext x⟩
 simp only [Tie.newFz,if_true]
 rw [List.getElem?_toArray,Nat.zero_add,List.getElem?_append_left (List.getElem?_eq_some_iff.1 h3).1]
 exact h3
end
end
section
open Go.RowKit (Below)
section
variable {P:Program} {G:Tie} {h h':Heap} {w:World}
theorem x7r {b:Nat} {t:TypeId} {cs:List V} (hb:xan h b=some (t,cs)):h[b]?=some (.box t cs):=by
 unfold xan at hb
 split at hb
 ·rename_i e
  simp only [Option.some.injEq,Prod.mk.injEq] at hb
  obtain ⟨rfl,rfl⟩:=hb
  exact e
 ·simp at hb
theorem x5C {b:Nat} {rs:Array Value} {t:TypeId} {fr:Nat×Nat} (hw:w.heap[b]?=some (.cells rs t fr)):w.shape? b=some (t,rs.size):=by
 simp [World.shape?,hw]
theorem xdr {src dst t:TypeId} {s:Nat} {x v:V} {r:Value} (R:Rel G h w) (hs:P.underlying src=some (.pointer t)) (hd:P.underlying dst=some .unsafePointer) (hz:x2P P t=some s) (h0:s≠0)
  (hx:RepV G x r) (hv:x9R h x=some v):(convert src dst r).run P w=.ok r w∧RepV G v r:=by
 obtain ⟨i,hi,rfl⟩:∃ i,P.info? t=some i∧i.size=s:=by simpa [x2P] using hz
 unfold x9R at hv
 split at hv
 ·injection hv with hv
  subst hv
  have:=hx.sc_inv
  subst this
  refine ⟨?_,hx⟩
  simp [convert,run_underlying hs,run_underlying hd,Conv.unsafePointer]
 ·simp only [Option.bind_eq_some_iff] at hv
  obtain ⟨⟨ty,cs⟩,hb,hv⟩:=hv
  split at hv
  ·rename_i hlt
   injection hv with hv
   subst hv
   have hx':=hx
   simp only [RepV] at hx'
   obtain ⟨_,rfl⟩:=hx'
   obtain ⟨_,rs,hw,hl⟩:=R.box _ _ _ (x7r hb)
   have hlen:=hl.length
   simp only [Array.length_toList] at hlen
   exact ⟨Lib.run_to_unsafe w _ hs hd hi h0 (x5C hw) (by simp only at hlt ⊢;omega),hx⟩
  ·simp at hv
 ·simp at hv
theorem xih {src dst u:TypeId} {s:Nat} {x v:V} {r:Value} (R:Rel G h w) (hs:P.underlying src=some .unsafePointer) (hd:P.underlying dst=some (.pointer u)) (hz:x2P P u=some s)
  (hlies:liesAt P P.depth u (s/P.cellsOf u) 0 u 1=true) (hx:RepV G x r) (hv:xii h u s x=some v):(convert src dst r).run P w=.ok r w∧RepV G v r:=by
 obtain ⟨i,hi,rfl⟩:∃ i,P.info? u=some i∧i.size=s:=by simpa [x2P] using hz
 unfold xii at hv
 split at hv
 ·injection hv with hv
  subst hv
  have:=hx.sc_inv
  subst this
  refine ⟨?_,hx⟩
  simp [convert,run_underlying hs,run_underlying hd,Conv.unsafePointer]
 ·simp only [Option.bind_eq_some_iff] at hv
  obtain ⟨⟨ty,cs⟩,hb,hv⟩:=hv
  split at hv
  ·rename_i hc
   simp only at hc
   obtain ⟨rfl,hlen⟩:=hc
   injection hv with hv
   subst hv
   have hx':=hx
   simp only [RepV] at hx'
   obtain ⟨_,rfl⟩:=hx'
   obtain ⟨_,rs,hw,hl⟩:=R.box _ _ _ (x7r hb)
   have hl2:=hl.length
   simp only [Array.length_toList] at hl2
   refine ⟨Lib.run_from_unsafe w _ hs hd hi (x5C hw) ?_,hx⟩
   simp only
   rw [hl2,hlen]
   exact hlies
  ·simp at hv
 ·simp at hv
theorem xbB {op:BinOp} {t e:TypeId} {s:Nat} {neg:Bool} {x y:V} {b:Bool} {rx ry:Value} (R:Rel G h w) (hop:op=if neg then .neq else .eql) (ht:P.underlying t=some (.pointer e)) (hz:x2P P e=some s) (h0:s≠0)
  (hx:RepV G x rx) (hy:RepV G y ry) (hv:x7w h x y=some b) (ox oy:Operand):(do eqGuard op t ox oy rx ry;binOp op t rx ry:Sem Value).run P w=.ok (.bool (if neg then !b else b)) w:=by
 obtain ⟨i,hi,rfl⟩:∃ i,P.info? e=some i∧i.size=s:=by simpa [x2P] using hz
 have key:∀ {p q:Option Addr} (c:Bool),rx=.pointer p→ry=.pointer q→(∀ d,(Op.equalIn (d+1) t (.pointer p) (.pointer q)).run P w=.ok c w)→b=c→(do eqGuard op t ox oy rx ry;binOp op t rx ry:Sem Value).run P w=.ok (.bool (if neg then !b else b)) w:=by
  rintro p q c rfl rfl h3 rfl
  have h4:(Op.equal t (.pointer p) (.pointer q)).run P w=.ok b w:=by
   simp only [Op.equal,Op.maxDepth]
   exact h3 9999
  have h5:(eqGuard op t ox oy (.pointer p) (.pointer q)).run P w=.ok () w:=by
   cases neg<;>simp only [Bool.false_eq_true,if_false,if_true] at hop<;>subst hop<;>simp [eqGuard]
  simp only [Sem.run_bind,h5,Result.andThen_ok]
  cases neg
  ·simp only [Bool.false_eq_true,if_false] at hop ⊢
   subst hop
   simp only [binOp,Sem.run_bind,h4,Result.andThen_ok,Sem.run_pure]
  ·simp only [if_true] at hop ⊢
   subst hop
   simp only [binOp,Sem.run_bind,h4,Result.andThen_ok,Sem.run_pure]
 unfold x7w at hv
 split at hv
 ·injection hv with hv
  exact key true hx.sc_inv hy.sc_inv (fun d=>by simp [Op.equalIn,run_underlying ht]) hv.symm
 ·injection hv with hv
  simp only [RepV] at hy
  obtain ⟨_,rfl⟩:=hy
  exact key false hx.sc_inv rfl (fun d=>by simp [Op.equalIn,run_underlying ht]) hv.symm
 ·injection hv with hv
  simp only [RepV] at hx
  obtain ⟨_,rfl⟩:=hx
  exact key false rfl hy.sc_inv (fun d=>by simp [Op.equalIn,run_underlying ht]) hv.symm
 ·rename_i b1 o1 b2 o2
  simp only [Option.bind_eq_some_iff,Option.map_eq_some_iff] at hv
  obtain ⟨⟨t1,cs1⟩,hb1,⟨t2,cs2⟩,hb2,hv⟩:=hv
  simp only [RepV] at hx hy
  obtain ⟨_,rfl⟩:=hx
  obtain ⟨_,rfl⟩:=hy
  have e1:=x7r hb1
  have e2:=x7r hb2
  obtain ⟨_,rs1,hw1,_⟩:=R.box _ _ _ e1
  obtain ⟨_,rs2,hw2,_⟩:=R.box _ _ _ e2
  have hsame:(sameAddr ⟨G.bx b1,o1,none⟩ ⟨G.bx b2,o2,none⟩).run P w=.ok (b1==b2&&o1==o2) w:=by
   by_cases he:(⟨G.bx b1,o1,none⟩:Addr)=⟨G.bx b2,o2,none⟩
   ·rw [he,run_sameAddr_same]
    injection he with he1 he2
    have:b1=b2:=R.inj b1 b2 (G.bx b1) (by unfold Tie.real;rw [e1]) (by unfold Tie.real;rw [e2,he1])
    simp [this,he2]
   ·rw [run_sameAddr_other w he hw1 hw2]
    have:(b1==b2&&o1==o2)=false:=by
     by_cases hbb:b1=b2
     ·subst hbb
      have:o1≠o2:=fun e=>he (by rw [e])
      simp [this]
     ·simp [hbb]
    rw [this]
  refine key (b1==b2&&o1==o2) rfl rfl (fun d=>?_) hv.symm
  simp [Op.equalIn,run_underlying ht,sizeOf,typeInfo,hi,h0,hsame]
 ·simp at hv
theorem x9Y {ts:Array TypeId} {ty:TypeId} {x v:V} {r:Value} (R:Rel G h w) (hx:RepV G x r) (hv:x6p h x=some v):∃ rv,(Builtin.unsafeSliceData_ ts ty #[r]).run P w=.ok rv w∧RepV G v rv:=by
 unfold x6p at hv
 split at hv
 ·injection hv with hv
  subst hv
  have:=hx.sc_inv
  subst this
  exact ⟨.pointer none,Lib.run_unsafeSliceData_nil w ts ty 0 0,by simp [RepV,Value.oneCell']⟩
 ·rename_i b e off len
  split at hv
  ·rename_i z hr
   split at hv
   ·rename_i hpos
    injection hv with hv
    subst hv
    obtain ⟨sz,rows⟩:=z
    obtain ⟨t,eq,_,L,rs,hL,hLe,hLs,hcp,hw,hsz,hB⟩:=R.rowAt hr
    simp only [RepV] at hx
    obtain ⟨hb,a,cap,rfl,hLx⟩:=hx
    obtain ⟨h1,h2⟩:=hLx L hL
    obtain ⟨h3,h4,h5⟩:=h2 hLe.symm
    refine ⟨.pointer (some a),Lib.run_unsafeSliceData_row w ts ty a len cap (by omega),?_⟩
    simp only [RepV]
    refine ⟨hb,a,rfl,fun L' hL'=>?_⟩
    rw [hL] at hL'
    injection hL' with hL'
    subst hL'
    exact ⟨h1,fun _=>by rw [h5 (by omega),Nat.add_zero]⟩
   ·simp at hv
  ·simp at hv
 ·simp at hv
theorem x71:∀ {rows:List (List V)} {l:List UInt8},x72 rows=some l→∃ ns:List Int,rows=ns.map (fun n=>[V.sc (.int .u8 n)])∧l=ns.map fun n=>UInt8.ofNat n.toNat
 | [],l,h=>by simp [x72] at h;subst h;exact ⟨[],rfl,rfl⟩
 | r::rows,l,h=>by
  unfold x72 at h
  split at h
  ·rename_i e;simp at e
  ·rename_i n r' e
   simp only [List.cons.injEq] at e
   obtain ⟨rfl,rfl⟩:=e
   simp only [Option.map_eq_some_iff] at h
   obtain ⟨l',h1,rfl⟩:=h
   obtain ⟨ns,rfl,rfl⟩:=x71 h1
   exact ⟨n::ns,rfl,rfl⟩
  ·simp at h
theorem x52:∀ (ns:List Int) (a:Addr) (acc:ByteArray),(∀ j n,ns[j]?=some n→w.cell? (a.add j)=some (.int .u8 n)) →
  (loadBytes a acc ns.length).run P w=.ok ⟨acc.data++(ns.map fun n=>UInt8.ofNat n.toNat).toArray⟩ w
 | [],a,acc,_=>by simp [loadBytes]
 | x::l,a,acc,h=>by
  have h0:w.cell? a=some (.int .u8 x):=by
   have:=h 0 x rfl
   simpa [Addr.add] using this
  have ih:=x52 l (a.add 1) (acc.push x.toNat.toUInt8) (fun j y hy=>by
   have:=h (j+1) y (by simpa using hy)
   have e:(a.add 1).add j=a.add (j+1):=by
    unfold Addr.add
    by_cases hj:j=0
    ·subst hj;simp
    ·simp [hj];omega
   rw [e];exact this)
  simp only [List.length_cons,loadBytes,Sem.run_bind,run_load,h0,Result.andThen]
  rw [ih]
  congr 1
  apply ByteArray.ext
  simp [ByteArray.push]
theorem x63 (pt it ty e:TypeId) (hp:P.underlying pt=some (.pointer e)) (hc:P.cellsOf e=1) (g cells:Nat) (hsh:w.shape? g=some (e,cells)) (ns:List Int) (h0:ns.length≠0) (hn:ns.length≤cells) (h63:ns.length≤9223372036854775807)
  (hcell:∀ j x,ns[j]?=some x→w.cell? ((⟨g,0,none⟩:Addr).add j)=some (.int .u8 x)) :
  (Builtin.unsafeString_ #[pt,it] ty #[.pointer (some ⟨g,0,none⟩),.int .i64 ns.length]).run P w=.ok (.string ⟨(ns.map fun n=>UInt8.ofNat n.toNat).toArray⟩) (w.freeze ⟨g,0,none⟩ ns.length):=by
 have hlb:=x52 (P:=P) (w:=w) ns ⟨g,0,none⟩ .empty hcell
 have hlies:=Lib.liesAt_bytes (P:=P) hc (cells/P.cellsOf e) ns.length (by rw [hc];simpa using hn)
 have h63':¬ (9223372036854775807:Int)<(ns.length:Int):=by omega
 have hdef:Builtin.unsafeString_ #[pt,it] ty #[.pointer (some ⟨g,0,none⟩),.int .i64 ns.length] =
   (do
    let n ← asInt (.int .i64 ns.length)
    if n<0 then runtimePanic (.error "unsafe.String: len out of range")
    if n > IntKind.i64.max then unsupported (.unsafePointer "String: a length above the largest int")
    if n=0 then pure (.string .empty)
    else if ← variablesAt ⟨g,0,none⟩ (← elemOf pt) n.toNat then do
     let s ← loadBytes ⟨g,0,none⟩ .empty n.toNat
     freeze ⟨g,0,none⟩ n.toNat
     pure (.string s)
    else unsupported (.unsafePointer "String: not so many bytes at ptr")):=rfl
 rw [hdef]
 have hmax:IntKind.i64.max=9223372036854775807:=rfl
 have hneg:¬ (ns.length:Int)<0:=by omega
 have hz:¬ ns=[]:=by intro e;rw [e] at h0;exact h0 rfl
 simp [asInt,asIntOf,hmax,h63',hneg,hz,variablesAt,hsh,elemOf,run_underlying hp,hlies,hlb]
theorem xbx {pt it ty u:TypeId} {k:Nat} {x v:V} {r:Value} (R:Rel G h w) (hp:P.underlying pt=some (.pointer u)) (hc:P.cellsOf u=1) (hx:RepV G x r) (hv:x7a h u k x=some (v,h')) :
  ∃ rv w',(Builtin.unsafeString_ #[pt,it] ty #[r,.int .i64 k]).run P w=.ok rv w'∧Rel G h' w'∧RepV G v rv∧Bel G w w':=by
 unfold x7a at hv
 split at hv
 ·split at hv
  ·rename_i h0
   subst h0
   simp only [Option.some.injEq,Prod.mk.injEq] at hv
   obtain ⟨rfl,rfl⟩:=hv
   have:=hx.sc_inv
   subst this
   exact ⟨_,w,Lib.run_unsafeString_none w pt it ty none,R,by simp [RepV,Value.oneCell'],Bel.refl _ _⟩
  ·simp at hv
 ·rename_i b e
  split at hv
  ·rename_i t sz e' rows eq
   split at hv
   ·rename_i hcond
    obtain ⟨rfl,rfl,rfl,hk0,hkl,hlim⟩:=hcond
    simp only [Option.map_eq_some_iff,Prod.mk.injEq] at hv
    obtain ⟨l,hl,rfl,rfl⟩:=hv
    obtain ⟨_,L,rs,hL,hLe,hLs,hcp,hw,hsz,hB⟩:=R.row _ _ _ _ _ eq
    simp only [RepV] at hx
    obtain ⟨hb,a,rfl,hLx⟩:=hx
    have ha:=(hLx L hL).2 hLe.symm
    simp only [Nat.zero_mul,Nat.zero_add] at ha
    subst ha
    obtain ⟨ns,hns,rfl⟩:=x71 hl
    have hlen:ns.length=k:=by
     have:=congrArg List.length hns
     simp at this
     omega
    have hcell:∀ (j:Nat) (x:Int),ns[j]?=some x→rs[j]?=some (.int .u8 x):=by
     intro j x hj
     have hjl:=(List.getElem?_eq_some_iff.1 hj).1
     have hrj:rows[j]?=some [V.sc (.int .u8 x)]:=by
      have h1:(rows.take k)[j]?=some [V.sc (.int .u8 x)]:=by rw [hns];simp [hj]
      rw [List.getElem?_take,if_pos (by omega)] at h1
      exact h1
     obtain ⟨_,_,h3⟩:=hB j _ hrj
     obtain ⟨v,h4,h5⟩:=h3 0 _ rfl
     have:=h5.sc_inv
     subst this
     simpa using h4
    have hrun:=x63 (P:=P) (w:=w) pt it ty t hp hc L.blk rs.size (x5C hw) ns (by omega) (by rw [hsz,hlen];omega) (by rw [hlen];unfold lim at hlim;omega) (fun j x hj=>by
     rw [x2g,Nat.zero_add]
     unfold World.cell?
     simp [hw,hcell j x hj])
    rw [hlen] at hrun
    have hreal:G.real h b=some L.blk:=by unfold Tie.real;rw [eq];simp [hL]
    have hlt:b<h.length:=Rel.real_lt hreal
    have hfz:(w.freeze ⟨L.blk,0,none⟩ k).heap.size=w.heap.size∧∀ c,c≠L.blk→(w.freeze ⟨L.blk,0,none⟩ k).heap[c]?=w.heap[c]?:=by
     unfold World.freeze
     rw [if_neg (by omega)]
     refine ⟨by simp,fun c hc=>?_⟩
     simp only [Array.getElem?_modify]
     rw [if_neg (by simpa using Ne.symm hc)]
    refine ⟨_,_,hrun,?_,by simp [RepV,Value.oneCell'],Lib.below_freeze (Below.refl _ _) (R.low b _ hreal).1 k,fun c hc=>hfz.2 c (fun e=>by rw [e,R.kp_of hreal] at hc;exact absurd hc (by simp))⟩
    refine R.put (Ext.refl G) b L.blk (fun c hc=>by rw [List.getElem?_set_ne (by omega)]) (by simp [R.n]) rfl (fun _ _=>rfl) (fun _ _=>rfl) ?_ (R.low b _ hreal).1 (R.low b _ hreal).2 (R.kp_of hreal) (fun c hc e=>hc (R.inj c b _ e hreal)) (by rw [hfz.1];exact Nat.le_refl _) (fun c hc _=>hfz.2 c hc) ?_ ?_ ?_
    ·intro k' hk'
     unfold Tie.real at hk'
     rw [List.getElem?_set_self hlt] at hk'
     simp at hk'
    ·intro t' cs' e
     rw [List.getElem?_set_self hlt] at e
     simp at e
    ·intro t' sz' e1 rows' e
     rw [List.getElem?_set_self hlt] at e
     simp at e
    ·intro es e
     rw [List.getElem?_set_self hlt] at e
     simp at e
   ·simp at hv
  ·simp at hv
 ·simp at hv
theorem xkz {t e ty:TypeId} {x:V} {r:Value} {n:Nat} (ht:P.underlying t=some (.slice e)) (hx:RepV G x r) (hv:capV x=some n):(Builtin.cap_ #[t] ty #[r]).run P w=.ok (.int .i64 n) w:=by
 have key:∀ (b:Option Addr) (l:Nat),r=.slice b l n→(Builtin.cap_ #[t] ty #[r]).run P w=.ok (.int .i64 n) w:=by
  rintro b l rfl
  simp [Builtin.cap_,run_underlying ht,goInt]
 unfold capV at hv
 split at hv
 ·injection hv with hv
  subst hv
  exact key none 0 hx.sc_inv
 ·split at hv
  ·rename_i hf
   injection hv with hv
   subst hv
   simp only [RepV] at hx
   obtain ⟨a,cap,rfl,_,hex,_⟩:=hx
   exact key a _ (by rw [hex hf])
  ·simp at hv
 ·simp at hv
end
end
section
open Go.RowKit (Below)
section
variable {P:Program} {gl:Nat→Option (List V)} {G:Tie} {en:Env} {h h':Heap} {a:Act} {w:World} {o:Oper} {base:Nat} {v:V}
def OpOk (P:Program) (o:Oper) (a:Act) (G:Tie) (h':Heap) (w:World) (v:V):Prop :=
 ∃ r w' G',((execOp a.eval o).run P w=.ok (.value r) w'∨((execOp a.eval o).run P w=.ok .skip w'∧r=undef))∧Ext G G'∧Rel G' h' w'∧RepV G' v r∧Bel G w w'
theorem OpOk.quiet {s:Sem Value} {r:Value} (R:Rel G h w) (he:execOp a.eval o=(do pure (.value (← s)))) (hr:s.run P w=.ok r w) (hv:RepV G v r):OpOk P o a G h w v:=by
 refine ⟨r,w,G,.inl ?_,Ext.refl G,R,hv,Bel.refl _ _⟩
 rw [he]
 simp only [Sem.run_bind,hr,Result.andThen_ok]
 rfl
theorem OpOk.value {s:Sem Value} {r:Value} {w':World} {G':Tie} (he:execOp a.eval o=(do pure (.value (← s)))) (hr:s.run P w=.ok r w') (x:Ext G G') (R:Rel G' h' w') (hv:RepV G' v r) (hb:Bel G w w'):OpOk P o a G h' w v:=by
 refine ⟨r,w',G',.inl ?_,x,R,hv,hb⟩
 rw [he]
 simp only [Sem.run_bind,hr,Result.andThen_ok]
 rfl
theorem x8l {t:TypeId} {zs:List V} (h:x5y P t=some zs) (w:World):∃ z,(zeroValue t).run P w=.ok z w∧x7v z.cells.toList=some zs:=by
 simp only [x5y,Option.bind_eq_some_iff] at h
 obtain ⟨z,⟨i,hi,hz⟩,hs⟩:=h
 exact ⟨z,by simp [zeroValue,typeInfo,hi,hz],hs⟩
theorem xfo {x:Operand} (hop:o.op=.move x∨o.op=.assign x) (hgl:x0V G gl) (he:x0w G en a.tmps) (R:Rel G h w) {y:Opd} (hc:opd gl x=some y):OpOk P o a G h w (y.get en):=by
 refine ⟨a.eval x,w,G,.inl ?_,Ext.refl G,R,x0l hgl he hc,Bel.refl _ _⟩
 rcases hop with hop | hop<;>simp only [execOp,hop]<;>rfl
theorem xjH {c x y:Operand} {c' x' y':Opd} {t:Bool} (hop:o.op=.pick c x y) (hgl:x0V G gl) (he:x0w G en a.tmps) (R:Rel G h w) (h1:opd gl c=some c') (h2:opd gl x=some x') (h3:opd gl y=some y')
  (ht:c'.get en=.sc (.bool t)):OpOk P o a G h w (if t then x'.get en else y'.get en):=by
 have hcv:=x0l hgl he h1
 rw [ht] at hcv
 have hcv:=hcv.sc_inv
 refine ⟨if t then a.eval x else a.eval y,w,G,.inl ?_,Ext.refl G,R,?_,Bel.refl _ _⟩
 ·simp [execOp,hop,hcv,asBool]
 ·cases t
  ·exact x0l hgl he h3
  ·exact x0l hgl he h2
theorem xhx {t:TypeId} {zs:List V} (hop:o.op=.alloc t) (R:Rel G h w) (hz:x5y P t=some zs):OpOk P o a G (h++[.box t zs]) w (.ptr h.length 0):=by
 obtain ⟨z,hr,hs⟩:=x8l hz w
 refine OpOk.value (s:=Instr.alloc t true (.tuple #[])) (r:=.pointer (some ⟨w.heap.size,0,none⟩)) (w':=w.alloc (.cells z.cells t (0,0))) (by simp only [execOp,hop]) ?_ (Ext.newBox G w.heap.size) (R.newBox t (x62 hs).1 (x3V hs)) ?_ (x3n R _)
 ·simp [Instr.alloc,hr,newVar,newRow]
 ·simp [RepV,Tie.newBox,R.n]
theorem xln {t:TypeId} {x:Operand} {x':Opd} (hop:o.op=.box t x) (hgl:x0V G gl) (he:x0w G en a.tmps) (R:Rel G h w) (h1:opd gl x=some x') (hone:(x'.get en).cells.all zm=true) :
  OpOk P o a G (h++[.box t (x'.get en).cells]) w (.ptr h.length 0):=by
 have hx:=x0l hgl he h1
 have hu:x'.get en≠.undef:=by
  intro e
  rw [e] at hone
  simp [V.cells,zm] at hone
 refine OpOk.value (s:=Instr.box t (a.eval x)) (r:=.pointer (some ⟨w.heap.size,0,none⟩)) (w':=w.alloc (.cells (a.eval x).cells t (0,0))) (by simp only [execOp,hop]) ?_ (Ext.newBox G w.heap.size) (R.newBox t hone (hx.cells hu)) ?_ (x3n R _)
 ·simp [Instr.box,newVar,newRow]
 ·simp [RepV,Tie.newBox,R.n]
theorem xfr {t:TypeId} {sz:Nat} {zs:List V} (hop:o.op=.alloc t) (R:Rel G h w) (hz:x5y P t=some zs) (hs:step base en h (.allocA t sz zs)=some (v,h')):OpOk P o a G h' w v:=by
 simp only [step] at hs
 split at hs
 ·rename_i hc
  obtain ⟨hpos,hmod,_⟩:=hc
  simp only [Option.some.injEq,Prod.mk.injEq] at hs
  obtain ⟨rfl,rfl⟩:=hs
  obtain ⟨z,hr,hs⟩:=x8l hz w
  have hrep:=x3V (G:=G) hs
  have hlen:=hrep.length
  simp only [Array.length_toList] at hlen
  have hdiv:zs.length/sz*sz=zs.length:=Nat.div_mul_cancel (Nat.dvd_of_mod_eq_zero hmod)
  refine OpOk.value (s:=Instr.alloc t true (.tuple #[])) (r:=.pointer (some ⟨w.heap.size,0,none⟩)) (w':=w.alloc (.cells z.cells t (0,0))) (by simp only [execOp,hop]) ?_ (Ext.newRow G ⟨0,sz,w.heap.size,zs.length/sz,(x3R sz zs).length⟩)
   (R.newRow t hpos (by rw [x6k];exact Nat.le_refl _) (by rw [hdiv];exact hlen) (x93 hpos (x62 hs).1 fun p c hc=>by
    obtain ⟨r,h1,h2⟩:=hrep.get hc
    exact ⟨r,by rw [← Array.getElem?_toList];exact h1,h2⟩)) ?_ (x3n R _)
  ·simp [Instr.alloc,hr,newVar,newRow]
  ·simp [RepV,Tie.newRow,R.n]
 ·simp at hs
theorem xjL {t:TypeId} {sz:Nat} {x:Operand} {x':Opd} (hop:o.op=.box t x) (hgl:x0V G gl) (he:x0w G en a.tmps) (R:Rel G h w) (h1:opd gl x=some x') (hs:step base en h (.boxA t sz x')=some (v,h')) :
  OpOk P o a G h' w v:=by
 simp only [step] at hs
 split at hs
 ·rename_i hc
  obtain ⟨hpos,hmod,_,hone⟩:=hc
  simp only [Option.some.injEq,Prod.mk.injEq] at hs
  obtain ⟨rfl,rfl⟩:=hs
  have hx:=x0l hgl he h1
  have hu:x'.get en≠.undef:=by
   intro e
   rw [e] at hone
   simp [V.cells,zm] at hone
  have hrep:=hx.cells hu
  have hlen:=hrep.length
  simp only [Array.length_toList] at hlen
  have hdiv:(x'.get en).cells.length/sz*sz=(x'.get en).cells.length:=Nat.div_mul_cancel (Nat.dvd_of_mod_eq_zero hmod)
  refine OpOk.value (s:=Instr.box t (a.eval x)) (r:=.pointer (some ⟨w.heap.size,0,none⟩)) (w':=w.alloc (.cells (a.eval x).cells t (0,0))) (by simp only [execOp,hop]) ?_ (Ext.newRow G ⟨0,sz,w.heap.size,(x'.get en).cells.length/sz,(x3R sz (x'.get en).cells).length⟩)
   (R.newRow t hpos (by rw [x6k];exact Nat.le_refl _) (by rw [hdiv];exact hlen) (x93 hpos hone fun p c hc=>by
    obtain ⟨r,h1,h2⟩:=hrep.get hc
    exact ⟨r,by rw [← Array.getElem?_toList];exact h1,h2⟩)) ?_ (x3n R _)
  ·simp [Instr.box,newVar,newRow]
  ·simp [RepV,Tie.newRow,R.n]
 ·simp at hs
theorem xjK {t:TypeId} {x:Operand} {x':Opd} (hop:o.op=.box t x) (hgl:x0V G gl) (he:x0w G en a.tmps) (R:Rel G h w) (h1:opd gl x=some x') (hs:step base en h (.boxF none x')=some (v,h')) :
  OpOk P o a G h' w v:=by
 simp only [step] at hs
 split at hs
 ·rename_i hg
  simp only [Option.all_none,Bool.and_true] at hg
  simp only [Option.some.injEq,Prod.mk.injEq] at hs
  obtain ⟨rfl,rfl⟩:=hs
  have hx:=x0l hgl he h1
  have hu:x'.get en≠.undef:=by
   intro e
   rw [e] at hg
   simp [V.cells,x1h] at hg
  have hrep:=hx.cells hu
  have X:=Ext.newFz R (a.eval x).cells
  refine OpOk.value (s:=Instr.box t (a.eval x)) (r:=.pointer (some ⟨w.heap.size,0,none⟩)) (w':=w.alloc (.cells (a.eval x).cells t (0,0))) (by simp only [execOp,hop]) ?_ X
   (R.newFz (a.eval x).cells t (0,0)) ?_ (x3n R _)
  ·simp [Instr.box,newVar,newRow]
  ·simp only [RepV]
   refine ⟨w.heap.size,0,rfl,hg,RepF.of_get fun j c hj=>?_⟩
   obtain ⟨r,h2,h3⟩:=hrep.get hj
   refine ⟨r,?_,h3.ext X⟩
   simp only [Tie.newFz,if_true,Nat.zero_add]
   rw [← Array.getElem?_toList]
   exact h2
 ·simp at hs
theorem x5r:∀ {fs:List Field} {pl:List (Nat×Nat)},x3M P fs=some pl→fs.mapM (fun f=>(P.info? f.type).map fun i=>(f.offset,i.size))=some pl
 | [],pl,h=>by simp [x3M] at h;subst h;rfl
 | f::fs,pl,h=>by
  simp only [x3M,x2P,Option.bind_eq_some_iff,Option.map_eq_some_iff] at h
  obtain ⟨n,⟨i,hi,rfl⟩,r,hr,rfl⟩:=h
  have:=x5r hr
  simp [List.mapM_cons,hi,this]
theorem x5i (hgl:x0V G gl) (he:x0w G en a.tmps) {pl:List (Nat×Nat)} {place:Nat→Option (Nat×Nat)} (hpl:∀ i p,pl[i]?=some p→place i=some p):∀ {ps:List (Nat×Operand)} {qs:List (Nat×Nat×Opd)},
  x3O gl pl ps=some qs→All2 (fun p r=>place r.1=some (p.1,p.2.1)∧RepV G p.2.2 r.2) (x0g en qs) (ps.map fun p=>(p.1,a.eval p.2))
 | [],qs,h=>by simp [x3O] at h;subst h;simp [x0g,All2]
 | (i,x)::ps,qs,h=>by
  simp only [x3O,Option.bind_eq_some_iff,Option.map_eq_some_iff] at h
  obtain ⟨p,hp,y,hy,r,hr,rfl⟩:=h
  simp only [x0g,List.map_cons,All2]
  exact ⟨_,_,rfl,⟨hpl _ _ hp,x0l hgl he hy⟩,x5i hgl he hpl hr⟩
theorem x7L (hgl:x0V G gl) (he:x0w G en a.tmps):∀ {ps:List (Nat×Operand)} {qs:List (Nat×Opd)},
  x6q gl ps=some qs→All2 (fun p r=>p.1=r.1∧RepV G p.2 r.2) (x0J en qs) (ps.map fun p=>(p.1,a.eval p.2))
 | [],qs,h=>by simp [x6q] at h;subst h;simp [x0J,All2]
 | (i,x)::ps,qs,h=>by
  simp only [x6q,Option.bind_eq_some_iff,Option.map_eq_some_iff] at h
  obtain ⟨y,hy,r,hr,rfl⟩:=h
  simp only [x0J,List.map_cons,All2]
  exact ⟨_,_,rfl,⟨rfl,x0l hgl he hy⟩,x7L hgl he hr⟩
theorem xcQ {t:TypeId} {ps:Array (Nat×Operand)} {zs cs:List V} {qs:List (Nat×Nat×Opd)} {d:TypeDesc} (hop:o.op=.build t ps) (hgl:x0V G gl) (he:x0w G en a.tmps) (R:Rel G h w) (hd:P.underlying t=some d) (hz:x5y P t=some zs)
  (hq:(∃ fs pl,d=.struct fs∧x3M P fs.toList=some pl∧x3O gl pl ps.toList=some qs)∨(∃ n e s,d=.array n e∧x2P P e=some s∧x3O gl ((List.range n).map fun i=>(i*s,s)) ps.toList=some qs))
  (hf:x0q zs (x0g en qs)=some cs):OpOk P o a G h w (.agg cs):=by
 simp only [x5y,Option.bind_eq_some_iff] at hz
 obtain ⟨z,⟨it,hit,hz⟩,hs⟩:=hz
 have key:∃ cells,P.built t (ps.toList.map fun p=>(p.1,a.eval p.2))=some cells∧RepL G cs cells.toList:=by
  rcases hq with ⟨fs,pl,rfl,hp,hb⟩ | ⟨n,e,s,rfl,hs',hb⟩
  ·obtain ⟨cells,h1,h2⟩:=x5J (G:=G) (pl.toArray[·]?) (x3V hs) hf (x5i hgl he (by simp) hb)
   exact ⟨cells,by simp only [Program.built,hit,hd,hz,x5r hp];exact h1,h2⟩
  ·simp only [x2P,Option.map_eq_some_iff] at hs'
   obtain ⟨ie,hie,rfl⟩:=hs'
   obtain ⟨cells,h1,h2⟩:=x5J (G:=G) (fun i=>some (i*ie.size,ie.size)) (x3V hs) hf (x5i hgl he (fun i p hp=>by
    simp only [List.getElem?_map,Option.map_eq_some_iff] at hp
    obtain ⟨j,hj,rfl⟩:=hp
    rw [List.getElem?_range] at hj
    ·injection hj with hj;rw [hj]
    ·rcases Nat.lt_or_ge i n with hl | hl
     ·exact hl
     ·rw [List.getElem?_eq_none (by simpa using hl)] at hj
      simp at hj) hb)
   exact ⟨cells,by simp only [Program.built,hit,hd,hz,hie];exact h1,h2⟩
 obtain ⟨cells,h1,h2⟩:=key
 refine OpOk.quiet (s:=Instr.build t (ps.map fun (i,x)=>(i,a.eval x))) (r:=.agg cells) R (by simp only [execOp,hop]) (run_build w t _ cells ?_) ?_
 ·rw [← h1]
  congr 1
  simp
 ·simp only [RepV]
  exact ⟨_,rfl,h2⟩
end
end
end Go.Am
