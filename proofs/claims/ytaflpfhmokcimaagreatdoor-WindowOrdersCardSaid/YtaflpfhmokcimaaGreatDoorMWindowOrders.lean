/- For every list of instructions, all registers and every order, the law spinnakerlaw19.WindowOrders returns true and leaves its arguments as they were; the listed table holds what the program's text lays (the card ties that). -/
import Derived.Test.YtaflpfhmokcimaaGreatDoorAm10
import Derived.Test.YtaflpfhmokcimaaGreatDoorCards
import Derived.Test.YtaflpfhmokcimaaGreatDoorTie
import Derived.Test.YtaflpfhmokcimaaGreatDoorTMac
import Derived.WalkKit
import Derived.ProofKit
import Derived.OpenShut
import Derived.Deep.DeepHandedRow
import Derived.Lib.LaidTab
import Derived.MakeChecks
import Derived.Lay
set_option linter.unusedSimpArgs false
namespace Go.Proofs.YtaflpfhmokcimaaGreatDoor.fnWindowOrders
open Go.ChangeShapes Go.WideShapes Go.ChangeAt Go.RowKit
theorem own:ownKnob Tryz.prog.godebug=none:=by kernel_rfl
theorem gn_0:Tryz.prog.globalNamed "spinnaker/isa.names" = some 0:=by kernel_rfl
theorem globs {W:World} (hL:laidMetH Tryz.prog Rows.windowOrdersRow.laid W):Am.x0V (Am.x5l W) Am.glT:=by
 rw [MakeChecks.laidMetH_plain _ _ _ (by kernel_rfl)] at hL
 intro g cs h
 unfold Am.glT at h
 by_cases e:g=0
 ·rw [if_pos e] at h;injection h with h;subst e;subst h
  exact Am.glob_tab (d:=Rows.laid_spinnaker_isa_names) hL (by simp [Rows.windowOrdersRow]) gn_0 (t:=132) (by kernel_rfl) Tryz.underlying132 (by kernel_rfl) (by kernel_rfl) (by kernel_rfl)
 rw [if_neg e] at h;clear e
 simp at h
set_option maxRecDepth 100000 in
theorem ins_of:∀ (m:Nat) (rows:List (List Am.V)),(∀ r∈rows,Am.Shp Tryz.prog m 30 r)→∃ li:List Am.Ins,rows=li.map Am.x7h∧∀ x∈li,Am.I64 x.imm:=by
 intro m rows h
 refine Am.xhh (f:=Am.x7h) (Q:=fun x=>Am.I64 x.imm) fun r hr=>?_
 obtain ⟨k,rfl,hz⟩:=(h r hr).struct Tryz.underlying30
 obtain ⟨a0,r0,rfl,_,q0,a1,r1,rfl,_,q1,a2,r2,rfl,_,q2,a3,r3,rfl,_,q3,a4,r4,rfl,_,q4,a5,r5,rfl,_,q5,a6,r6,rfl,_,q6,rfl⟩:=hz
 obtain ⟨op,_,_,rfl⟩:=q0.int Tryz.underlying3
 obtain ⟨rd,_,_,rfl⟩:=q1.int Tryz.underlying3
 obtain ⟨a,_,_,rfl⟩:=q2.int Tryz.underlying3
 obtain ⟨b,_,_,rfl⟩:=q3.int Tryz.underlying3
 obtain ⟨imm,b1,b2,rfl⟩:=q4.int Tryz.underlying3
 obtain ⟨aq,rfl⟩:=q5.bool Tryz.underlying4
 obtain ⟨rl,rfl⟩:=q6.bool Tryz.underlying4
 exact ⟨⟨op,rd,a,b,imm,aq,rl⟩,rfl,b1,b2⟩
set_option maxRecDepth 100000 in
theorem law_of:∀ avs,Am.Each (Am.xna Tryz.prog) [39,40,23] avs→Am.WpF Am.S0 0 4 avs [] fun v _=>v=.bool true:=by
 intro avs h
 match avs,h with
 | [a,b,c],⟨⟨n,vs,h,e⟩,⟨n2,vs2,h2,e2⟩,⟨n3,vs3,h3,e3⟩,_⟩ =>
  rw [Tryz.underlying39] at e
  rw [Tryz.underlying40] at e2
  rw [Tryz.underlying23] at e3
  simp only at e e2 e3
  obtain ⟨ra,m0,rfl,rfl,_,hr⟩:=h.slc Tryz.underlying39
  obtain ⟨k,rfl,hl,hv⟩:=h2.arr Tryz.underlying40
  obtain ⟨rc,m1,rfl,rfl,_,ho⟩:=h3.slc Tryz.underlying23
  have c1:Tryz.prog.cellsOf 30=7:=by kernel_rfl
  have c2:Tryz.prog.cellsOf 3=1:=by kernel_rfl
  obtain ⟨li,rfl,hi⟩:=ins_of _ ra hr
  obtain ⟨r,rfl,hri⟩:=Am.regs_of hl fun v hv'=>by
   obtain ⟨x,x1,x2,hx⟩:=(hv v hv').int Tryz.underlying3
   injection hx with hx
   exact ⟨x,⟨x1,x2⟩,hx⟩
  obtain ⟨os,rfl,_⟩:=Am.xhh (f:=fun n=>[Am.sci n]) (Q:=fun _=>True) fun r hr=>by
   obtain ⟨x,_,_,hx⟩:=(ho r hr).int Tryz.underlying3
   exact ⟨x,hx,trivial⟩
  injection e with e _
  injection e3 with e3 _
  subst e e2 e3
  rw [c1,c2]
  exact (Am.windowOrders_law li hi r hri os).mono fun _ _ h=>h.1
theorem params_ok:∀ t∈Tryz.f4.params.toList,Tryz.prog.readableRec t=true∧t<Tryz.prog.types.size:=by
 have h:(Tryz.f4.params.toList.all fun t=>Tryz.prog.readableRec t&&decide (t<Tryz.prog.types.size))=true:=by kernel_rfl
 intro t ht
 have:=List.all_eq_true.1 h t ht
 simpa using this
theorem tys_ok:Am.xmN Tryz.prog [3,4,23,30,39,40]=true:=by kernel_rfl
theorem params_in:∀ t∈Tryz.f4.params.toList,t∈[3,4,23,30,39,40]:=by
 rw [Tryz.params4]
 decide
set_option maxRecDepth 100000 in
theorem law_run (H:Type) (enc:TypeId×Value→H) (W:World) (base:Nat) (args:Array Value) (ds gs:List (DataW H)) (before:List MemPlace)
  (hval:∀ (j:Nat) t v,Tryz.f4.params[j]?=some t→args[j]?=some v→Value.okWide Tryz.prog W .any base t v)
  (hW:DataW.Whole enc Tryz.prog Tryz.f4.params.toList Rows.windowOrdersSpec.vars false W args.toList ds gs before) (hL:laidMetH Tryz.prog Rows.windowOrdersRow.laid W) :
  Calls Tryz.prog 4 args W fun e W'=>e=.returned (.bool true)∧Below W.heap.size W W':=by
 obtain ⟨p,q,hA0,hV,rfl,_,_⟩:=hW
 have hA:DataW.TrodAll enc Tryz.prog W 0 (fun _=>true) true Tryz.f4.params.toList args.toList ds p:=hA0
 obtain ⟨avs,h1,h2,_⟩:=Am.xio tys_ok params_in hA (fun j t v a b=>hval j t v (by simpa using a) (by simpa using b))
 rw [Tryz.params4] at h2
 exact Am.law_calls (fn:=Tryz.f4) (vs:=avs) Am.call_all (globs hL) h1 Tryz.func4 (by kernel_rfl) (by kernel_rfl) (law_of avs h2)
theorem spec_shape {H:Type} {enc:TypeId×Value→H} {W:World} {args:Array Value} {ds gs:List (DataW H)} {before:List MemPlace}
  (hW:DataW.Whole enc Tryz.prog Tryz.f4.params.toList Rows.windowOrdersSpec.vars false W args.toList ds gs before) :
  (Rows.windowOrdersSpec.fn H (ds++gs)).results=[.lit (.bool true)]∧(Rows.windowOrdersSpec.fn H (ds++gs)).args=ds∧(Rows.windowOrdersSpec.fn H (ds++gs)).vars=[]:=by
 obtain ⟨p,q,hA0,hV,rfl,_,_⟩:=hW
 have hA:DataW.TrodAll enc Tryz.prog W 0 (fun _=>true) true Tryz.f4.params.toList args.toList ds p:=hA0
 rw [Tryz.params4] at hA
 obtain ⟨rfl,rfl⟩:=trodVars_none hV
 obtain ⟨v0,vs0,d0,ds0,p0,q0,hargs,rfl,rfl,h0,r0⟩:=trodAll_cons hA
 obtain ⟨v1,vs1,d1,ds1,p1,q1,rfl,rfl,rfl,h1,r1⟩:=trodAll_cons r0
 obtain ⟨v2,vs2,d2,ds2,p2,q2,rfl,rfl,rfl,h2,r2⟩:=trodAll_cons r1
 obtain ⟨rfl,rfl,rfl⟩:=trodAll_nil r2
 exact ⟨rfl,rfl,rfl⟩
set_option maxRecDepth 100000 in
/-- WHAT THE WALK GIVES, FOR EVERY ARGUMENT AND EVERY WORLD THAT HOLDS THE TABLES. -/
theorem contract (H:Type) (enc:TypeId×Value→H) (W:World) (base:Nat) (args:Array Value) (ds gs:List (DataW H)) (before:List MemPlace)
  (hval:∀ (j:Nat) t v,Tryz.f4.params[j]?=some t→args[j]?=some v→Value.okWide Tryz.prog W .any base t v)
  (hW:DataW.Whole enc Tryz.prog Tryz.f4.params.toList Rows.windowOrdersSpec.vars false W args.toList ds gs before) (hL:laidMetH Tryz.prog Rows.windowOrdersRow.laid W) :
  Calls Tryz.prog 4 args W fun e W'=>∃ v,e=.returned v∧Rows.windowOrdersSpec.post enc Tryz.prog Tryz.f4 false true false false W args v W':=by
 have hrun:=law_run H enc W base args ds gs before hval hW hL
 refine hrun.mono fun e W' he=>?_
 obtain ⟨rfl,hb⟩:=he
 exact ⟨_,rfl,Am.law_post (tb:=4) (gs:=gs) (before:=before) (by kernel_rfl) params_ok (by kernel_rfl) Tryz.underlying4 rfl (spec_shape hW) hW hb⟩
set_option maxRecDepth 100000 in
theorem laid_met (os:Os) (args:Array Value):laidMet Tryz.prog Rows.windowOrdersRow.laid ((World.laidAll Tryz.prog os Rows.windowOrdersRow.laid).forCall (fun _ _=>0) ⟨#[],args,[]⟩).memory :=
 laidMet_laidAll _ (by kernel_rfl) (by kernel_rfl)
theorem reads (os:Os) {H:Type} (enc:TypeId×Value→H):∃ places,DataW.whole enc Tryz.prog ((World.laidAll Tryz.prog os Rows.windowOrdersRow.laid).forCall (fun _ _=>0) ⟨#[],#[.slice none 0 0,.agg #[.int .i64 0,.int .i64 0,.int .i64 0,.int .i64 0,.int .i64 0,.int .i64 0,.int .i64 0,.int .i64 0,.int .i64 0,.int .i64 0,.int .i64 0,.int .i64 0,.int .i64 0,.int .i64 0,.int .i64 0,.int .i64 0,.int .i64 0,.int .i64 0,.int .i64 0,.int .i64 0,.int .i64 0,.int .i64 0,.int .i64 0,.int .i64 0,.int .i64 0,.int .i64 0,.int .i64 0,.int .i64 0,.int .i64 0,.int .i64 0,.int .i64 0,.int .i64 0],.slice none 0 0],[]⟩).memory Tryz.f4.params.toList Rows.windowOrdersSpec.vars false #[.slice none 0 0,.agg #[.int .i64 0,.int .i64 0,.int .i64 0,.int .i64 0,.int .i64 0,.int .i64 0,.int .i64 0,.int .i64 0,.int .i64 0,.int .i64 0,.int .i64 0,.int .i64 0,.int .i64 0,.int .i64 0,.int .i64 0,.int .i64 0,.int .i64 0,.int .i64 0,.int .i64 0,.int .i64 0,.int .i64 0,.int .i64 0,.int .i64 0,.int .i64 0,.int .i64 0,.int .i64 0,.int .i64 0,.int .i64 0,.int .i64 0,.int .i64 0,.int .i64 0,.int .i64 0],.slice none 0 0].toList 8=some ([.nil,.agg [.lit (.int .i64 0),.lit (.int .i64 0),.lit (.int .i64 0),.lit (.int .i64 0),.lit (.int .i64 0),.lit (.int .i64 0),.lit (.int .i64 0),.lit (.int .i64 0),.lit (.int .i64 0),.lit (.int .i64 0),.lit (.int .i64 0),.lit (.int .i64 0),.lit (.int .i64 0),.lit (.int .i64 0),.lit (.int .i64 0),.lit (.int .i64 0),.lit (.int .i64 0),.lit (.int .i64 0),.lit (.int .i64 0),.lit (.int .i64 0),.lit (.int .i64 0),.lit (.int .i64 0),.lit (.int .i64 0),.lit (.int .i64 0),.lit (.int .i64 0),.lit (.int .i64 0),.lit (.int .i64 0),.lit (.int .i64 0),.lit (.int .i64 0),.lit (.int .i64 0),.lit (.int .i64 0),.lit (.int .i64 0)],.nil],[],places) :=
 ⟨[],by kernel_rfl⟩
set_option maxRecDepth 100000 in
theorem lifted (os:Os) (started:os.Started) (H:Type) (enc:TypeId×Value→H) (F:Stop.Interp) :
  ReturnsInHanded {} Tryz.checked os 4 .any ((OpenSpec.ofChange Rows.windowOrdersSpec).preRow enc Tryz.prog Tryz.f4 Rows.windowOrdersRow.domain false Rows.windowOrdersRow.laid) (((OpenSpec.ofChange Rows.windowOrdersSpec).at F).post enc Tryz.prog Tryz.f4 false true false false):=by
 obtain ⟨places,hx⟩:=reads os enc
 refine returnsInHanded_of_row (C:=Tryz.checked) (s:=OpenSpec.ofChange Rows.windowOrdersSpec) own started (by kernel_rfl) Tryz.func4
  (witness_row_at (enc:=enc) (C:=Tryz.checked) false (World.laidAll Tryz.prog os Rows.windowOrdersRow.laid) #[.slice none 0 0,.agg #[.int .i64 0,.int .i64 0,.int .i64 0,.int .i64 0,.int .i64 0,.int .i64 0,.int .i64 0,.int .i64 0,.int .i64 0,.int .i64 0,.int .i64 0,.int .i64 0,.int .i64 0,.int .i64 0,.int .i64 0,.int .i64 0,.int .i64 0,.int .i64 0,.int .i64 0,.int .i64 0,.int .i64 0,.int .i64 0,.int .i64 0,.int .i64 0,.int .i64 0,.int .i64 0,.int .i64 0,.int .i64 0,.int .i64 0,.int .i64 0,.int .i64 0,.int .i64 0],.slice none 0 0] (World.laidAll_os _ _ _) (by kernel_rfl) (by kernel_rfl) (by kernel_rfl)
   (OpenSpec.preRow_of_cond 8 hx (by kernel_rfl) (fun k hk=>by cases hk) (by kernel_rfl) (laid_met os _))) ?_
 intro W base args ds gs before hval hW _ _ _ hL _ _
 exact contract H enc W base args ds gs before hval hW hL
theorem said:Rows.WindowOrdersSaid :=
 OpenClaim.holds_of_cond 4 Tryz.f4 rfl rfl rfl rfl rfl rfl rfl ⟨rfl,rfl,rfl,rfl,rfl⟩ rfl rfl rfl rfl rfl (by kernel_rfl) Tryz.func4 (by kernel_rfl)
  (of_decide_eq_true (by kernel_rfl)) (by unfold Func.isWrapper;first | (rw [if_pos (by decide +kernel)];kernel_rfl) | (rw [if_neg (by decide +kernel)];exact ⟨rfl,rfl⟩))
  (fun os started H enc _ F=>by rw [OpenClaim.pre_eq_preRow];exact lifted os started H enc F)
theorem plain (f:FuncId) (fn:Func) (hf:Tryz.pinned.checked.prog.funcNamed Rows.windowOrdersRow.func=some f) (hfn:Tryz.pinned.checked.prog.funcs[f]?=some fn) :
  false=Tryz.pinned.checked.prog.looks []∧∀ (j:Nat) t,fn.params[j]?=some t→Tryz.pinned.checked.prog.wantsStandIn t=false:=by
 obtain rfl:f=4:=Option.some.inj ((show Tryz.prog.funcNamed Rows.windowOrdersRow.func=some 4 by kernel_rfl).symm.trans hf) |>.symm
 obtain rfl:fn=Tryz.f4:=(Option.some.inj (Tryz.func4.symm.trans hfn)).symm
 refine ⟨by kernel_rfl,fun j t ht=>?_⟩
 have hall:(Tryz.f4.params.toList.all fun t=>!Tryz.prog.wantsStandIn t)=true:=by kernel_rfl
 have:=List.all_eq_true.1 hall t (by
  rw [← Array.getElem?_toList] at ht
  exact List.mem_of_getElem? ht)
 show Tryz.prog.wantsStandIn t=false
 simpa using this
/-- THE CARD. -/
theorem card:Rows.WindowOrdersCardSaid :=
 Claim7.holds_tied_plain_at .later [] _ _ _ _ said (fun _ h=>by cases h) (by kernel_rfl) (fun _ h=>by cases h) windowOrders_row_tie rfl ⟨rfl,rfl⟩ (by kernel_rfl) rfl plain (by kernel_rfl)
end Go.Proofs.YtaflpfhmokcimaaGreatDoor.fnWindowOrders
namespace Go.Proofs.YtaflpfhmokcimaaGreatDoor
theorem windowOrders_card:Rows.WindowOrdersCardSaid:=fnWindowOrders.card
end Go.Proofs.YtaflpfhmokcimaaGreatDoor
