/- The abstract machine and what is proved in it, part 9. -/
import Derived.Test.YtaflpfhmokcimaaGreatDoorAm8
set_option linter.unusedVariables false
set_option linter.unusedSimpArgs false
namespace Go.Am
section
theorem xj5 {base:Nat} (op a b:Int) (nm:ByteArray) (ha:I64 a) (hb:I64 b) (c0:∀ base h,WpF S0 base x09 [.sc (.int .i64 op)] h fun v h'=>v=.sc (.string nm)∧h'=h) (cn:∀ base h,WpF S0 base x03 [.sc (.string nm)] h fun v h'=>v=.sc (.string ⟨#[97,100,100]⟩)∧h'=h) (h:Heap):WpF S0 base x02 [.sc (.int .i64 op),.sc (.int .i64 a),.sc (.int .i64 b)] h fun v h'=>v=.sc (.int .i64 (w64 (a+b)))∧h'=h:=by
 have co:=fun base b h=>x6I (base:=base) b h
 have cb:∀ base h,WpF S0 base x0b [U64 (uN a),.sc (.int .i64 63)] h fun r h'=>r=V.int ((uN a/2 ^ 63%2:Nat):Int)∧h'=h:=fun base h=>x2X (uN a) 63 h (x1u a) (by decide)
 have hl:uN b%64<64:=Nat.mod_lt _ (by decide)
 have m1:∀ base h,WpF S0 base x04 [.sc (.int .i64 a),V.int (uN b%64:Nat),.bool true,.sc (.int .i64 0),.sc (.int .i64 64)] h fun v h'=>v=.sc (.int .i64 (w64 (numN (movF (uN a) (uN b%64) 64 0 true) 64:Nat)))∧h'=h:=fun base h=>x0m a (uN b%64) 64 0 true (by omega) (by omega) (by omega) h
 have m2:∀ base h,WpF S0 base x04 [.sc (.int .i64 a),V.int (uN b%64:Nat),.bool false,.sc (.int .i64 0),.sc (.int .i64 64)] h fun v h'=>v=.sc (.int .i64 (w64 (numN (movF (uN a) (uN b%64) 64 0 false) 64:Nat)))∧h'=h:=fun base h=>x0m a (uN b%64) 64 0 false (by omega) (by omega) (by omega) h
 have m3:∀ base h,WpF S0 base x04 [.sc (.int .i64 a),V.int (uN b%64:Nat),.bool false,V.int (uN a/2 ^ 63%2:Nat),.sc (.int .i64 64)] h fun v h'=>v=.sc (.int .i64 (w64 (numN (movF (uN a) (uN b%64) 64 (uN a/2 ^ 63%2) false) 64:Nat)))∧h'=h:=fun base h=>x0m a (uN b%64) 64 (uN a/2 ^ 63%2) false (by omega) (by omega) (by omega) h
 have q1:=x6G a (uN b%64)
 have q2:=x6E a (uN b%64)
 have q3:=x6F a (uN b%64) ha hl
 generalize hB:uN a/2 ^ 63%2=B at *
 have n1:(((uN b:Nat):Int)).tmod 64=((uN b%64:Nat):Int):=x1s (uN b) 64
 have n4:IntKind.i64.wrap ((uN b%64:Nat):Int)=((uN b%64:Nat):Int):=x08 (by omega) (by omega)
 first | refine zu (A:=x01) rfl rfl rfl rfl ?_ | refine zB (A:=x01) rfl rfl rfl rfl ?_
 simp only [x01,oD,cD,τ,φ,ι]
 simp only [SQ,SQB,zm,AOp.opds,step,Opd.get,zk,bin,zzc,IntKind.signed,zi,zj,zl,zb,unary,ze,zd,za,zo,zr,zh,zf,zg,zp,Cp.isFull,isNil,zq,simprocAttr,SQX,V.cells,x2h,List.cons.injEq,x0d,n1,n4,zn (c0 _ _),zn (cn _ _),zn (co _ _ _),zn (cb _ _),zn (m1 _ _),zn (m2 _ _),zn (m3 _ _),q1,q2,q3,x84,f_or,x83,List.take_length,Nat.le_refl]
theorem xmw {base:Nat} (op a b:Int) (nm:ByteArray) (ha:I64 a) (hb:I64 b) (c0:∀ base h,WpF S0 base x09 [.sc (.int .i64 op)] h fun v h'=>v=.sc (.string nm)∧h'=h) (cn:∀ base h,WpF S0 base x03 [.sc (.string nm)] h fun v h'=>v=.sc (.string ⟨#[115,117,98]⟩)∧h'=h) (h:Heap):WpF S0 base x02 [.sc (.int .i64 op),.sc (.int .i64 a),.sc (.int .i64 b)] h fun v h'=>v=.sc (.int .i64 (w64 (a-b)))∧h'=h:=by
 have co:=fun base b h=>x6I (base:=base) b h
 have cb:∀ base h,WpF S0 base x0b [U64 (uN a),.sc (.int .i64 63)] h fun r h'=>r=V.int ((uN a/2 ^ 63%2:Nat):Int)∧h'=h:=fun base h=>x2X (uN a) 63 h (x1u a) (by decide)
 have hl:uN b%64<64:=Nat.mod_lt _ (by decide)
 have m1:∀ base h,WpF S0 base x04 [.sc (.int .i64 a),V.int (uN b%64:Nat),.bool true,.sc (.int .i64 0),.sc (.int .i64 64)] h fun v h'=>v=.sc (.int .i64 (w64 (numN (movF (uN a) (uN b%64) 64 0 true) 64:Nat)))∧h'=h:=fun base h=>x0m a (uN b%64) 64 0 true (by omega) (by omega) (by omega) h
 have m2:∀ base h,WpF S0 base x04 [.sc (.int .i64 a),V.int (uN b%64:Nat),.bool false,.sc (.int .i64 0),.sc (.int .i64 64)] h fun v h'=>v=.sc (.int .i64 (w64 (numN (movF (uN a) (uN b%64) 64 0 false) 64:Nat)))∧h'=h:=fun base h=>x0m a (uN b%64) 64 0 false (by omega) (by omega) (by omega) h
 have m3:∀ base h,WpF S0 base x04 [.sc (.int .i64 a),V.int (uN b%64:Nat),.bool false,V.int (uN a/2 ^ 63%2:Nat),.sc (.int .i64 64)] h fun v h'=>v=.sc (.int .i64 (w64 (numN (movF (uN a) (uN b%64) 64 (uN a/2 ^ 63%2) false) 64:Nat)))∧h'=h:=fun base h=>x0m a (uN b%64) 64 (uN a/2 ^ 63%2) false (by omega) (by omega) (by omega) h
 have q1:=x6G a (uN b%64)
 have q2:=x6E a (uN b%64)
 have q3:=x6F a (uN b%64) ha hl
 generalize hB:uN a/2 ^ 63%2=B at *
 have n1:(((uN b:Nat):Int)).tmod 64=((uN b%64:Nat):Int):=x1s (uN b) 64
 have n4:IntKind.i64.wrap ((uN b%64:Nat):Int)=((uN b%64:Nat):Int):=x08 (by omega) (by omega)
 first | refine zu (A:=x01) rfl rfl rfl rfl ?_ | refine zB (A:=x01) rfl rfl rfl rfl ?_
 simp only [x01,oD,cD,τ,φ,ι]
 simp only [SQ,SQB,zm,AOp.opds,step,Opd.get,zk,bin,zzc,IntKind.signed,zi,zj,zl,zb,unary,ze,zd,za,zo,zr,zh,zf,zg,zp,Cp.isFull,isNil,zq,simprocAttr,SQX,V.cells,x2h,List.cons.injEq,x0d,n1,n4,zn (c0 _ _),zn (cn _ _),zn (co _ _ _),zn (cb _ _),zn (m1 _ _),zn (m2 _ _),zn (m3 _ _),q1,q2,q3,x84,f_or,x83,List.take_length,Nat.le_refl]
theorem xj3 {base:Nat} (op a b:Int) (nm:ByteArray) (ha:I64 a) (hb:I64 b) (c0:∀ base h,WpF S0 base x09 [.sc (.int .i64 op)] h fun v h'=>v=.sc (.string nm)∧h'=h) (cn:∀ base h,WpF S0 base x03 [.sc (.string nm)] h fun v h'=>v=.sc (.string ⟨#[115,108,108]⟩)∧h'=h) (h:Heap):WpF S0 base x02 [.sc (.int .i64 op),.sc (.int .i64 a),.sc (.int .i64 b)] h fun v h'=>v=.sc (.int .i64 (w64 (a*2 ^ (uN b%64))))∧h'=h:=by
 have co:=fun base b h=>x6I (base:=base) b h
 have cb:∀ base h,WpF S0 base x0b [U64 (uN a),.sc (.int .i64 63)] h fun r h'=>r=V.int ((uN a/2 ^ 63%2:Nat):Int)∧h'=h:=fun base h=>x2X (uN a) 63 h (x1u a) (by decide)
 have hl:uN b%64<64:=Nat.mod_lt _ (by decide)
 have m1:∀ base h,WpF S0 base x04 [.sc (.int .i64 a),V.int (uN b%64:Nat),.bool true,.sc (.int .i64 0),.sc (.int .i64 64)] h fun v h'=>v=.sc (.int .i64 (w64 (numN (movF (uN a) (uN b%64) 64 0 true) 64:Nat)))∧h'=h:=fun base h=>x0m a (uN b%64) 64 0 true (by omega) (by omega) (by omega) h
 have m2:∀ base h,WpF S0 base x04 [.sc (.int .i64 a),V.int (uN b%64:Nat),.bool false,.sc (.int .i64 0),.sc (.int .i64 64)] h fun v h'=>v=.sc (.int .i64 (w64 (numN (movF (uN a) (uN b%64) 64 0 false) 64:Nat)))∧h'=h:=fun base h=>x0m a (uN b%64) 64 0 false (by omega) (by omega) (by omega) h
 have m3:∀ base h,WpF S0 base x04 [.sc (.int .i64 a),V.int (uN b%64:Nat),.bool false,V.int (uN a/2 ^ 63%2:Nat),.sc (.int .i64 64)] h fun v h'=>v=.sc (.int .i64 (w64 (numN (movF (uN a) (uN b%64) 64 (uN a/2 ^ 63%2) false) 64:Nat)))∧h'=h:=fun base h=>x0m a (uN b%64) 64 (uN a/2 ^ 63%2) false (by omega) (by omega) (by omega) h
 have q1:=x6G a (uN b%64)
 have q2:=x6E a (uN b%64)
 have q3:=x6F a (uN b%64) ha hl
 generalize hB:uN a/2 ^ 63%2=B at *
 have n1:(((uN b:Nat):Int)).tmod 64=((uN b%64:Nat):Int):=x1s (uN b) 64
 have n4:IntKind.i64.wrap ((uN b%64:Nat):Int)=((uN b%64:Nat):Int):=x08 (by omega) (by omega)
 first | refine zu (A:=x01) rfl rfl rfl rfl ?_ | refine zB (A:=x01) rfl rfl rfl rfl ?_
 simp only [x01,oD,cD,τ,φ,ι]
 simp only [SQ,SQB,zm,AOp.opds,step,Opd.get,zk,bin,zzc,IntKind.signed,zi,zj,zl,zb,unary,ze,zd,za,zo,zr,zh,zf,zg,zp,Cp.isFull,isNil,zq,simprocAttr,SQX,V.cells,x2h,List.cons.injEq,x0d,n1,n4,zn (c0 _ _),zn (cn _ _),zn (co _ _ _),zn (cb _ _),zn (m1 _ _),zn (m2 _ _),zn (m3 _ _),q1,q2,q3,x84,f_or,x83,List.take_length,Nat.le_refl]
theorem xj2 {base:Nat} (op a b:Int) (nm:ByteArray) (ha:I64 a) (hb:I64 b) (c0:∀ base h,WpF S0 base x09 [.sc (.int .i64 op)] h fun v h'=>v=.sc (.string nm)∧h'=h) (cn:∀ base h,WpF S0 base x03 [.sc (.string nm)] h fun v h'=>v=.sc (.string ⟨#[115,108,116]⟩)∧h'=h) (h:Heap):WpF S0 base x02 [.sc (.int .i64 op),.sc (.int .i64 a),.sc (.int .i64 b)] h fun v h'=>v=.sc (.int .i64 (if a<b then 1 else 0))∧h'=h:=by
 have co:=fun base b h=>x6I (base:=base) b h
 have cb:∀ base h,WpF S0 base x0b [U64 (uN a),.sc (.int .i64 63)] h fun r h'=>r=V.int ((uN a/2 ^ 63%2:Nat):Int)∧h'=h:=fun base h=>x2X (uN a) 63 h (x1u a) (by decide)
 have hl:uN b%64<64:=Nat.mod_lt _ (by decide)
 have m1:∀ base h,WpF S0 base x04 [.sc (.int .i64 a),V.int (uN b%64:Nat),.bool true,.sc (.int .i64 0),.sc (.int .i64 64)] h fun v h'=>v=.sc (.int .i64 (w64 (numN (movF (uN a) (uN b%64) 64 0 true) 64:Nat)))∧h'=h:=fun base h=>x0m a (uN b%64) 64 0 true (by omega) (by omega) (by omega) h
 have m2:∀ base h,WpF S0 base x04 [.sc (.int .i64 a),V.int (uN b%64:Nat),.bool false,.sc (.int .i64 0),.sc (.int .i64 64)] h fun v h'=>v=.sc (.int .i64 (w64 (numN (movF (uN a) (uN b%64) 64 0 false) 64:Nat)))∧h'=h:=fun base h=>x0m a (uN b%64) 64 0 false (by omega) (by omega) (by omega) h
 have m3:∀ base h,WpF S0 base x04 [.sc (.int .i64 a),V.int (uN b%64:Nat),.bool false,V.int (uN a/2 ^ 63%2:Nat),.sc (.int .i64 64)] h fun v h'=>v=.sc (.int .i64 (w64 (numN (movF (uN a) (uN b%64) 64 (uN a/2 ^ 63%2) false) 64:Nat)))∧h'=h:=fun base h=>x0m a (uN b%64) 64 (uN a/2 ^ 63%2) false (by omega) (by omega) (by omega) h
 have q1:=x6G a (uN b%64)
 have q2:=x6E a (uN b%64)
 have q3:=x6F a (uN b%64) ha hl
 generalize hB:uN a/2 ^ 63%2=B at *
 have n1:(((uN b:Nat):Int)).tmod 64=((uN b%64:Nat):Int):=x1s (uN b) 64
 have n4:IntKind.i64.wrap ((uN b%64:Nat):Int)=((uN b%64:Nat):Int):=x08 (by omega) (by omega)
 first | refine zu (A:=x01) rfl rfl rfl rfl ?_ | refine zB (A:=x01) rfl rfl rfl rfl ?_
 simp only [x01,oD,cD,τ,φ,ι]
 simp only [SQ,SQB,zm,AOp.opds,step,Opd.get,zk,bin,zzc,IntKind.signed,zi,zj,zl,zb,unary,ze,zd,za,zo,zr,zh,zf,zg,zp,Cp.isFull,isNil,zq,simprocAttr,SQX,V.cells,x2h,List.cons.injEq,x0d,n1,n4,zn (c0 _ _),zn (cn _ _),zn (co _ _ _),zn (cb _ _),zn (m1 _ _),zn (m2 _ _),zn (m3 _ _),q1,q2,q3,x84,f_or,x83,List.take_length,Nat.le_refl]
theorem xgk {base:Nat} (op a b:Int) (nm:ByteArray) (ha:I64 a) (hb:I64 b) (c0:∀ base h,WpF S0 base x09 [.sc (.int .i64 op)] h fun v h'=>v=.sc (.string nm)∧h'=h) (cn:∀ base h,WpF S0 base x03 [.sc (.string nm)] h fun v h'=>v=.sc (.string ⟨#[115,108,116,117]⟩)∧h'=h) (h:Heap):WpF S0 base x02 [.sc (.int .i64 op),.sc (.int .i64 a),.sc (.int .i64 b)] h fun v h'=>v=.sc (.int .i64 (if uN a<uN b then 1 else 0))∧h'=h:=by
 have co:=fun base b h=>x6I (base:=base) b h
 have cb:∀ base h,WpF S0 base x0b [U64 (uN a),.sc (.int .i64 63)] h fun r h'=>r=V.int ((uN a/2 ^ 63%2:Nat):Int)∧h'=h:=fun base h=>x2X (uN a) 63 h (x1u a) (by decide)
 have hl:uN b%64<64:=Nat.mod_lt _ (by decide)
 have m1:∀ base h,WpF S0 base x04 [.sc (.int .i64 a),V.int (uN b%64:Nat),.bool true,.sc (.int .i64 0),.sc (.int .i64 64)] h fun v h'=>v=.sc (.int .i64 (w64 (numN (movF (uN a) (uN b%64) 64 0 true) 64:Nat)))∧h'=h:=fun base h=>x0m a (uN b%64) 64 0 true (by omega) (by omega) (by omega) h
 have m2:∀ base h,WpF S0 base x04 [.sc (.int .i64 a),V.int (uN b%64:Nat),.bool false,.sc (.int .i64 0),.sc (.int .i64 64)] h fun v h'=>v=.sc (.int .i64 (w64 (numN (movF (uN a) (uN b%64) 64 0 false) 64:Nat)))∧h'=h:=fun base h=>x0m a (uN b%64) 64 0 false (by omega) (by omega) (by omega) h
 have m3:∀ base h,WpF S0 base x04 [.sc (.int .i64 a),V.int (uN b%64:Nat),.bool false,V.int (uN a/2 ^ 63%2:Nat),.sc (.int .i64 64)] h fun v h'=>v=.sc (.int .i64 (w64 (numN (movF (uN a) (uN b%64) 64 (uN a/2 ^ 63%2) false) 64:Nat)))∧h'=h:=fun base h=>x0m a (uN b%64) 64 (uN a/2 ^ 63%2) false (by omega) (by omega) (by omega) h
 have q1:=x6G a (uN b%64)
 have q2:=x6E a (uN b%64)
 have q3:=x6F a (uN b%64) ha hl
 generalize hB:uN a/2 ^ 63%2=B at *
 have n1:(((uN b:Nat):Int)).tmod 64=((uN b%64:Nat):Int):=x1s (uN b) 64
 have n4:IntKind.i64.wrap ((uN b%64:Nat):Int)=((uN b%64:Nat):Int):=x08 (by omega) (by omega)
 first | refine zu (A:=x01) rfl rfl rfl rfl ?_ | refine zB (A:=x01) rfl rfl rfl rfl ?_
 simp only [x01,oD,cD,τ,φ,ι]
 simp only [SQ,SQB,zm,AOp.opds,step,Opd.get,zk,bin,zzc,IntKind.signed,zi,zj,zl,zb,unary,ze,zd,za,zo,zr,zh,zf,zg,zp,Cp.isFull,isNil,zq,simprocAttr,SQX,V.cells,x2h,List.cons.injEq,x0d,n1,n4,zn (c0 _ _),zn (cn _ _),zn (co _ _ _),zn (cb _ _),zn (m1 _ _),zn (m2 _ _),zn (m3 _ _),q1,q2,q3,x84,f_or,x83,List.take_length,Nat.le_refl]
theorem xiZ {base:Nat} (op a b:Int) (nm:ByteArray) (ha:I64 a) (hb:I64 b) (c0:∀ base h,WpF S0 base x09 [.sc (.int .i64 op)] h fun v h'=>v=.sc (.string nm)∧h'=h) (cn:∀ base h,WpF S0 base x03 [.sc (.string nm)] h fun v h'=>v=.sc (.string ⟨#[120,111,114]⟩)∧h'=h) (h:Heap):WpF S0 base x02 [.sc (.int .i64 op),.sc (.int .i64 a),.sc (.int .i64 b)] h fun v h'=>v=.sc (.int .i64 (xorI a b))∧h'=h:=by
 have co:=fun base b h=>x6I (base:=base) b h
 have cb:∀ base h,WpF S0 base x0b [U64 (uN a),.sc (.int .i64 63)] h fun r h'=>r=V.int ((uN a/2 ^ 63%2:Nat):Int)∧h'=h:=fun base h=>x2X (uN a) 63 h (x1u a) (by decide)
 have hl:uN b%64<64:=Nat.mod_lt _ (by decide)
 have m1:∀ base h,WpF S0 base x04 [.sc (.int .i64 a),V.int (uN b%64:Nat),.bool true,.sc (.int .i64 0),.sc (.int .i64 64)] h fun v h'=>v=.sc (.int .i64 (w64 (numN (movF (uN a) (uN b%64) 64 0 true) 64:Nat)))∧h'=h:=fun base h=>x0m a (uN b%64) 64 0 true (by omega) (by omega) (by omega) h
 have m2:∀ base h,WpF S0 base x04 [.sc (.int .i64 a),V.int (uN b%64:Nat),.bool false,.sc (.int .i64 0),.sc (.int .i64 64)] h fun v h'=>v=.sc (.int .i64 (w64 (numN (movF (uN a) (uN b%64) 64 0 false) 64:Nat)))∧h'=h:=fun base h=>x0m a (uN b%64) 64 0 false (by omega) (by omega) (by omega) h
 have m3:∀ base h,WpF S0 base x04 [.sc (.int .i64 a),V.int (uN b%64:Nat),.bool false,V.int (uN a/2 ^ 63%2:Nat),.sc (.int .i64 64)] h fun v h'=>v=.sc (.int .i64 (w64 (numN (movF (uN a) (uN b%64) 64 (uN a/2 ^ 63%2) false) 64:Nat)))∧h'=h:=fun base h=>x0m a (uN b%64) 64 (uN a/2 ^ 63%2) false (by omega) (by omega) (by omega) h
 have q1:=x6G a (uN b%64)
 have q2:=x6E a (uN b%64)
 have q3:=x6F a (uN b%64) ha hl
 generalize hB:uN a/2 ^ 63%2=B at *
 have n1:(((uN b:Nat):Int)).tmod 64=((uN b%64:Nat):Int):=x1s (uN b) 64
 have n4:IntKind.i64.wrap ((uN b%64:Nat):Int)=((uN b%64:Nat):Int):=x08 (by omega) (by omega)
 first | refine zu (A:=x01) rfl rfl rfl rfl ?_ | refine zB (A:=x01) rfl rfl rfl rfl ?_
 simp only [x01,oD,cD,τ,φ,ι]
 simp only [SQ,SQB,zm,AOp.opds,step,Opd.get,zk,bin,zzc,IntKind.signed,zi,zj,zl,zb,unary,ze,zd,za,zo,zr,zh,zf,zg,zp,Cp.isFull,isNil,zq,simprocAttr,SQX,V.cells,x2h,List.cons.injEq,x0d,n1,n4,zn (c0 _ _),zn (cn _ _),zn (co _ _ _),zn (cb _ _),zn (m1 _ _),zn (m2 _ _),zn (m3 _ _),q1,q2,q3,x84,f_or,x83,List.take_length,Nat.le_refl]
theorem xj0 {base:Nat} (op a b:Int) (nm:ByteArray) (ha:I64 a) (hb:I64 b) (c0:∀ base h,WpF S0 base x09 [.sc (.int .i64 op)] h fun v h'=>v=.sc (.string nm)∧h'=h) (cn:∀ base h,WpF S0 base x03 [.sc (.string nm)] h fun v h'=>v=.sc (.string ⟨#[115,114,108]⟩)∧h'=h) (h:Heap):WpF S0 base x02 [.sc (.int .i64 op),.sc (.int .i64 a),.sc (.int .i64 b)] h fun v h'=>v=.sc (.int .i64 (w64 ((uN a/2 ^ (uN b%64):Nat))))∧h'=h:=by
 have co:=fun base b h=>x6I (base:=base) b h
 have cb:∀ base h,WpF S0 base x0b [U64 (uN a),.sc (.int .i64 63)] h fun r h'=>r=V.int ((uN a/2 ^ 63%2:Nat):Int)∧h'=h:=fun base h=>x2X (uN a) 63 h (x1u a) (by decide)
 have hl:uN b%64<64:=Nat.mod_lt _ (by decide)
 have m1:∀ base h,WpF S0 base x04 [.sc (.int .i64 a),V.int (uN b%64:Nat),.bool true,.sc (.int .i64 0),.sc (.int .i64 64)] h fun v h'=>v=.sc (.int .i64 (w64 (numN (movF (uN a) (uN b%64) 64 0 true) 64:Nat)))∧h'=h:=fun base h=>x0m a (uN b%64) 64 0 true (by omega) (by omega) (by omega) h
 have m2:∀ base h,WpF S0 base x04 [.sc (.int .i64 a),V.int (uN b%64:Nat),.bool false,.sc (.int .i64 0),.sc (.int .i64 64)] h fun v h'=>v=.sc (.int .i64 (w64 (numN (movF (uN a) (uN b%64) 64 0 false) 64:Nat)))∧h'=h:=fun base h=>x0m a (uN b%64) 64 0 false (by omega) (by omega) (by omega) h
 have m3:∀ base h,WpF S0 base x04 [.sc (.int .i64 a),V.int (uN b%64:Nat),.bool false,V.int (uN a/2 ^ 63%2:Nat),.sc (.int .i64 64)] h fun v h'=>v=.sc (.int .i64 (w64 (numN (movF (uN a) (uN b%64) 64 (uN a/2 ^ 63%2) false) 64:Nat)))∧h'=h:=fun base h=>x0m a (uN b%64) 64 (uN a/2 ^ 63%2) false (by omega) (by omega) (by omega) h
 have q1:=x6G a (uN b%64)
 have q2:=x6E a (uN b%64)
 have q3:=x6F a (uN b%64) ha hl
 generalize hB:uN a/2 ^ 63%2=B at *
 have n1:(((uN b:Nat):Int)).tmod 64=((uN b%64:Nat):Int):=x1s (uN b) 64
 have n4:IntKind.i64.wrap ((uN b%64:Nat):Int)=((uN b%64:Nat):Int):=x08 (by omega) (by omega)
 first | refine zu (A:=x01) rfl rfl rfl rfl ?_ | refine zB (A:=x01) rfl rfl rfl rfl ?_
 simp only [x01,oD,cD,τ,φ,ι]
 simp only [SQ,SQB,zm,AOp.opds,step,Opd.get,zk,bin,zzc,IntKind.signed,zi,zj,zl,zb,unary,ze,zd,za,zo,zr,zh,zf,zg,zp,Cp.isFull,isNil,zq,simprocAttr,SQX,V.cells,x2h,List.cons.injEq,x0d,n1,n4,zn (c0 _ _),zn (cn _ _),zn (co _ _ _),zn (cb _ _),zn (m1 _ _),zn (m2 _ _),zn (m3 _ _),q1,q2,q3,x84,f_or,x83,List.take_length,Nat.le_refl]
theorem xj1 {base:Nat} (op a b:Int) (nm:ByteArray) (ha:I64 a) (hb:I64 b) (c0:∀ base h,WpF S0 base x09 [.sc (.int .i64 op)] h fun v h'=>v=.sc (.string nm)∧h'=h) (cn:∀ base h,WpF S0 base x03 [.sc (.string nm)] h fun v h'=>v=.sc (.string ⟨#[115,114,97]⟩)∧h'=h) (h:Heap):WpF S0 base x02 [.sc (.int .i64 op),.sc (.int .i64 a),.sc (.int .i64 b)] h fun v h'=>v=.sc (.int .i64 (a.fdiv (2 ^ (uN b%64))))∧h'=h:=by
 have co:=fun base b h=>x6I (base:=base) b h
 have cb:∀ base h,WpF S0 base x0b [U64 (uN a),.sc (.int .i64 63)] h fun r h'=>r=V.int ((uN a/2 ^ 63%2:Nat):Int)∧h'=h:=fun base h=>x2X (uN a) 63 h (x1u a) (by decide)
 have hl:uN b%64<64:=Nat.mod_lt _ (by decide)
 have m1:∀ base h,WpF S0 base x04 [.sc (.int .i64 a),V.int (uN b%64:Nat),.bool true,.sc (.int .i64 0),.sc (.int .i64 64)] h fun v h'=>v=.sc (.int .i64 (w64 (numN (movF (uN a) (uN b%64) 64 0 true) 64:Nat)))∧h'=h:=fun base h=>x0m a (uN b%64) 64 0 true (by omega) (by omega) (by omega) h
 have m2:∀ base h,WpF S0 base x04 [.sc (.int .i64 a),V.int (uN b%64:Nat),.bool false,.sc (.int .i64 0),.sc (.int .i64 64)] h fun v h'=>v=.sc (.int .i64 (w64 (numN (movF (uN a) (uN b%64) 64 0 false) 64:Nat)))∧h'=h:=fun base h=>x0m a (uN b%64) 64 0 false (by omega) (by omega) (by omega) h
 have m3:∀ base h,WpF S0 base x04 [.sc (.int .i64 a),V.int (uN b%64:Nat),.bool false,V.int (uN a/2 ^ 63%2:Nat),.sc (.int .i64 64)] h fun v h'=>v=.sc (.int .i64 (w64 (numN (movF (uN a) (uN b%64) 64 (uN a/2 ^ 63%2) false) 64:Nat)))∧h'=h:=fun base h=>x0m a (uN b%64) 64 (uN a/2 ^ 63%2) false (by omega) (by omega) (by omega) h
 have q1:=x6G a (uN b%64)
 have q2:=x6E a (uN b%64)
 have q3:=x6F a (uN b%64) ha hl
 generalize hB:uN a/2 ^ 63%2=B at *
 have n1:(((uN b:Nat):Int)).tmod 64=((uN b%64:Nat):Int):=x1s (uN b) 64
 have n4:IntKind.i64.wrap ((uN b%64:Nat):Int)=((uN b%64:Nat):Int):=x08 (by omega) (by omega)
 first | refine zu (A:=x01) rfl rfl rfl rfl ?_ | refine zB (A:=x01) rfl rfl rfl rfl ?_
 simp only [x01,oD,cD,τ,φ,ι]
 simp only [SQ,SQB,zm,AOp.opds,step,Opd.get,zk,bin,zzc,IntKind.signed,zi,zj,zl,zb,unary,ze,zd,za,zo,zr,zh,zf,zg,zp,Cp.isFull,isNil,zq,simprocAttr,SQX,V.cells,x2h,List.cons.injEq,x0d,n1,n4,zn (c0 _ _),zn (cn _ _),zn (co _ _ _),zn (cb _ _),zn (m1 _ _),zn (m2 _ _),zn (m3 _ _),q1,q2,q3,x84,f_or,x83,List.take_length,Nat.le_refl]
theorem xmy {base:Nat} (op a b:Int) (nm:ByteArray) (ha:I64 a) (hb:I64 b) (c0:∀ base h,WpF S0 base x09 [.sc (.int .i64 op)] h fun v h'=>v=.sc (.string nm)∧h'=h) (cn:∀ base h,WpF S0 base x03 [.sc (.string nm)] h fun v h'=>v=.sc (.string ⟨#[111,114]⟩)∧h'=h) (h:Heap):WpF S0 base x02 [.sc (.int .i64 op),.sc (.int .i64 a),.sc (.int .i64 b)] h fun v h'=>v=.sc (.int .i64 (orI a b))∧h'=h:=by
 have co:=fun base b h=>x6I (base:=base) b h
 have cb:∀ base h,WpF S0 base x0b [U64 (uN a),.sc (.int .i64 63)] h fun r h'=>r=V.int ((uN a/2 ^ 63%2:Nat):Int)∧h'=h:=fun base h=>x2X (uN a) 63 h (x1u a) (by decide)
 have hl:uN b%64<64:=Nat.mod_lt _ (by decide)
 have m1:∀ base h,WpF S0 base x04 [.sc (.int .i64 a),V.int (uN b%64:Nat),.bool true,.sc (.int .i64 0),.sc (.int .i64 64)] h fun v h'=>v=.sc (.int .i64 (w64 (numN (movF (uN a) (uN b%64) 64 0 true) 64:Nat)))∧h'=h:=fun base h=>x0m a (uN b%64) 64 0 true (by omega) (by omega) (by omega) h
 have m2:∀ base h,WpF S0 base x04 [.sc (.int .i64 a),V.int (uN b%64:Nat),.bool false,.sc (.int .i64 0),.sc (.int .i64 64)] h fun v h'=>v=.sc (.int .i64 (w64 (numN (movF (uN a) (uN b%64) 64 0 false) 64:Nat)))∧h'=h:=fun base h=>x0m a (uN b%64) 64 0 false (by omega) (by omega) (by omega) h
 have m3:∀ base h,WpF S0 base x04 [.sc (.int .i64 a),V.int (uN b%64:Nat),.bool false,V.int (uN a/2 ^ 63%2:Nat),.sc (.int .i64 64)] h fun v h'=>v=.sc (.int .i64 (w64 (numN (movF (uN a) (uN b%64) 64 (uN a/2 ^ 63%2) false) 64:Nat)))∧h'=h:=fun base h=>x0m a (uN b%64) 64 (uN a/2 ^ 63%2) false (by omega) (by omega) (by omega) h
 have q1:=x6G a (uN b%64)
 have q2:=x6E a (uN b%64)
 have q3:=x6F a (uN b%64) ha hl
 generalize hB:uN a/2 ^ 63%2=B at *
 have n1:(((uN b:Nat):Int)).tmod 64=((uN b%64:Nat):Int):=x1s (uN b) 64
 have n4:IntKind.i64.wrap ((uN b%64:Nat):Int)=((uN b%64:Nat):Int):=x08 (by omega) (by omega)
 first | refine zu (A:=x01) rfl rfl rfl rfl ?_ | refine zB (A:=x01) rfl rfl rfl rfl ?_
 simp only [x01,oD,cD,τ,φ,ι]
 simp only [SQ,SQB,zm,AOp.opds,step,Opd.get,zk,bin,zzc,IntKind.signed,zi,zj,zl,zb,unary,ze,zd,za,zo,zr,zh,zf,zg,zp,Cp.isFull,isNil,zq,simprocAttr,SQX,V.cells,x2h,List.cons.injEq,x0d,n1,n4,zn (c0 _ _),zn (cn _ _),zn (co _ _ _),zn (cb _ _),zn (m1 _ _),zn (m2 _ _),zn (m3 _ _),q1,q2,q3,x84,f_or,x83,List.take_length,Nat.le_refl]
theorem xj4 {base:Nat} (op a b:Int) (nm:ByteArray) (ha:I64 a) (hb:I64 b) (c0:∀ base h,WpF S0 base x09 [.sc (.int .i64 op)] h fun v h'=>v=.sc (.string nm)∧h'=h) (cn:∀ base h,WpF S0 base x03 [.sc (.string nm)] h fun v h'=>v=.sc (.string ⟨#[97,110,100]⟩)∧h'=h) (h:Heap):WpF S0 base x02 [.sc (.int .i64 op),.sc (.int .i64 a),.sc (.int .i64 b)] h fun v h'=>v=.sc (.int .i64 (andI a b))∧h'=h:=by
 have co:=fun base b h=>x6I (base:=base) b h
 have cb:∀ base h,WpF S0 base x0b [U64 (uN a),.sc (.int .i64 63)] h fun r h'=>r=V.int ((uN a/2 ^ 63%2:Nat):Int)∧h'=h:=fun base h=>x2X (uN a) 63 h (x1u a) (by decide)
 have hl:uN b%64<64:=Nat.mod_lt _ (by decide)
 have m1:∀ base h,WpF S0 base x04 [.sc (.int .i64 a),V.int (uN b%64:Nat),.bool true,.sc (.int .i64 0),.sc (.int .i64 64)] h fun v h'=>v=.sc (.int .i64 (w64 (numN (movF (uN a) (uN b%64) 64 0 true) 64:Nat)))∧h'=h:=fun base h=>x0m a (uN b%64) 64 0 true (by omega) (by omega) (by omega) h
 have m2:∀ base h,WpF S0 base x04 [.sc (.int .i64 a),V.int (uN b%64:Nat),.bool false,.sc (.int .i64 0),.sc (.int .i64 64)] h fun v h'=>v=.sc (.int .i64 (w64 (numN (movF (uN a) (uN b%64) 64 0 false) 64:Nat)))∧h'=h:=fun base h=>x0m a (uN b%64) 64 0 false (by omega) (by omega) (by omega) h
 have m3:∀ base h,WpF S0 base x04 [.sc (.int .i64 a),V.int (uN b%64:Nat),.bool false,V.int (uN a/2 ^ 63%2:Nat),.sc (.int .i64 64)] h fun v h'=>v=.sc (.int .i64 (w64 (numN (movF (uN a) (uN b%64) 64 (uN a/2 ^ 63%2) false) 64:Nat)))∧h'=h:=fun base h=>x0m a (uN b%64) 64 (uN a/2 ^ 63%2) false (by omega) (by omega) (by omega) h
 have q1:=x6G a (uN b%64)
 have q2:=x6E a (uN b%64)
 have q3:=x6F a (uN b%64) ha hl
 generalize hB:uN a/2 ^ 63%2=B at *
 have n1:(((uN b:Nat):Int)).tmod 64=((uN b%64:Nat):Int):=x1s (uN b) 64
 have n4:IntKind.i64.wrap ((uN b%64:Nat):Int)=((uN b%64:Nat):Int):=x08 (by omega) (by omega)
 first | refine zu (A:=x01) rfl rfl rfl rfl ?_ | refine zB (A:=x01) rfl rfl rfl rfl ?_
 simp only [x01,oD,cD,τ,φ,ι]
 simp only [SQ,SQB,zm,AOp.opds,step,Opd.get,zk,bin,zzc,IntKind.signed,zi,zj,zl,zb,unary,ze,zd,za,zo,zr,zh,zf,zg,zp,Cp.isFull,isNil,zq,simprocAttr,SQX,V.cells,x2h,List.cons.injEq,x0d,n1,n4,zn (c0 _ _),zn (cn _ _),zn (co _ _ _),zn (cb _ _),zn (m1 _ _),zn (m2 _ _),zn (m3 _ _),q1,q2,q3,x84,f_or,x83,List.take_length,Nat.le_refl]
theorem xmz {base:Nat} (op a b:Int) (nm:ByteArray) (ha:I64 a) (hb:I64 b) (c0:∀ base h,WpF S0 base x09 [.sc (.int .i64 op)] h fun v h'=>v=.sc (.string nm)∧h'=h) (cn:∀ base h,WpF S0 base x03 [.sc (.string nm)] h fun v h'=>v=.sc (.string ⟨#[109,117,108]⟩)∧h'=h) (h:Heap):WpF S0 base x02 [.sc (.int .i64 op),.sc (.int .i64 a),.sc (.int .i64 b)] h fun v h'=>v=.sc (.int .i64 (w64 (a*b)))∧h'=h:=by
 have cp:=fun base h=>xhp (base:=base) a b ha hb h
 have n1:(((uN b:Nat):Int)).tmod 64=((uN b%64:Nat):Int):=x1s (uN b) 64
 have n4:IntKind.i64.wrap ((uN b%64:Nat):Int)=((uN b%64:Nat):Int):=x08 (by omega) (by omega)
 have sz:(⟨#[109,117,108]⟩:ByteArray).size=3:=rfl
 have wl:IntKind.i64.wrap 2=2:=x08 (by decide) (by decide)
 have tn:((2:Int)).toNat=2:=rfl
 have lc:(⟨#[109,117,108]⟩:ByteArray)[2]?=some 108:=rfl
 first | refine zu (A:=x01) rfl rfl rfl rfl ?_ | refine zB (A:=x01) rfl rfl rfl rfl ?_
 simp only [x01,oD,cD,τ,φ,ι]
 simp only [SQ,SQB,zm,AOp.opds,step,Opd.get,zk,bin,zzc,IntKind.signed,zi,zj,zl,zb,unary,ze,zd,za,zo,zr,zh,zf,zg,zp,Cp.isFull,isNil,zq,simprocAttr,SQX,V.cells,x2h,List.cons.injEq,x0d,n1,n4,sz,lc,wl,tn,zn (c0 _ _),zn (cn _ _),zn (cp _ _),List.take_length,Nat.le_refl]
theorem xkn {base:Nat} (op a b:Int) (nm:ByteArray) (ha:I64 a) (hb:I64 b) (c0:∀ base h,WpF S0 base x09 [.sc (.int .i64 op)] h fun v h'=>v=.sc (.string nm)∧h'=h) (cn:∀ base h,WpF S0 base x03 [.sc (.string nm)] h fun v h'=>v=.sc (.string ⟨#[109,117,108,104]⟩)∧h'=h) (h:Heap):WpF S0 base x02 [.sc (.int .i64 op),.sc (.int .i64 a),.sc (.int .i64 b)] h fun v h'=>v=.sc (.int .i64 (x5q a b true true))∧h'=h:=by
 have cp:=fun base h=>xfi (base:=base) a b ha hb h
 have n1:(((uN b:Nat):Int)).tmod 64=((uN b%64:Nat):Int):=x1s (uN b) 64
 have n4:IntKind.i64.wrap ((uN b%64:Nat):Int)=((uN b%64:Nat):Int):=x08 (by omega) (by omega)
 have sz:(⟨#[109,117,108,104]⟩:ByteArray).size=4:=rfl
 have wl:IntKind.i64.wrap 3=3:=x08 (by decide) (by decide)
 have tn:((3:Int)).toNat=3:=rfl
 have lc:(⟨#[109,117,108,104]⟩:ByteArray)[3]?=some 104:=rfl
 first | refine zu (A:=x01) rfl rfl rfl rfl ?_ | refine zB (A:=x01) rfl rfl rfl rfl ?_
 simp only [x01,oD,cD,τ,φ,ι]
 simp only [SQ,SQB,zm,AOp.opds,step,Opd.get,zk,bin,zzc,IntKind.signed,zi,zj,zl,zb,unary,ze,zd,za,zo,zr,zh,zf,zg,zp,Cp.isFull,isNil,zq,simprocAttr,SQX,V.cells,x2h,List.cons.injEq,x0d,n1,n4,sz,lc,wl,tn,zn (c0 _ _),zn (cn _ _),zn (cp _ _),List.take_length,Nat.le_refl]
theorem xgm {base:Nat} (op a b:Int) (nm:ByteArray) (ha:I64 a) (hb:I64 b) (c0:∀ base h,WpF S0 base x09 [.sc (.int .i64 op)] h fun v h'=>v=.sc (.string nm)∧h'=h) (cn:∀ base h,WpF S0 base x03 [.sc (.string nm)] h fun v h'=>v=.sc (.string ⟨#[109,117,108,104,115,117]⟩)∧h'=h) (h:Heap):WpF S0 base x02 [.sc (.int .i64 op),.sc (.int .i64 a),.sc (.int .i64 b)] h fun v h'=>v=.sc (.int .i64 (x5q a b true false))∧h'=h:=by
 have cp:=fun base h=>xbI (base:=base) a b ha hb h
 have n1:(((uN b:Nat):Int)).tmod 64=((uN b%64:Nat):Int):=x1s (uN b) 64
 have n4:IntKind.i64.wrap ((uN b%64:Nat):Int)=((uN b%64:Nat):Int):=x08 (by omega) (by omega)
 have sz:(⟨#[109,117,108,104,115,117]⟩:ByteArray).size=6:=rfl
 have wl:IntKind.i64.wrap 5=5:=x08 (by decide) (by decide)
 have tn:((5:Int)).toNat=5:=rfl
 have lc:(⟨#[109,117,108,104,115,117]⟩:ByteArray)[5]?=some 117:=rfl
 first | refine zu (A:=x01) rfl rfl rfl rfl ?_ | refine zB (A:=x01) rfl rfl rfl rfl ?_
 simp only [x01,oD,cD,τ,φ,ι]
 simp only [SQ,SQB,zm,AOp.opds,step,Opd.get,zk,bin,zzc,IntKind.signed,zi,zj,zl,zb,unary,ze,zd,za,zo,zr,zh,zf,zg,zp,Cp.isFull,isNil,zq,simprocAttr,SQX,V.cells,x2h,List.cons.injEq,x0d,n1,n4,sz,lc,wl,tn,zn (c0 _ _),zn (cn _ _),zn (cp _ _),List.take_length,Nat.le_refl]
theorem xi2 {base:Nat} (op a b:Int) (nm:ByteArray) (ha:I64 a) (hb:I64 b) (c0:∀ base h,WpF S0 base x09 [.sc (.int .i64 op)] h fun v h'=>v=.sc (.string nm)∧h'=h) (cn:∀ base h,WpF S0 base x03 [.sc (.string nm)] h fun v h'=>v=.sc (.string ⟨#[109,117,108,104,117]⟩)∧h'=h) (h:Heap):WpF S0 base x02 [.sc (.int .i64 op),.sc (.int .i64 a),.sc (.int .i64 b)] h fun v h'=>v=.sc (.int .i64 (x5q a b false false))∧h'=h:=by
 have cp:=fun base h=>xdP (base:=base) a b ha hb h
 have n1:(((uN b:Nat):Int)).tmod 64=((uN b%64:Nat):Int):=x1s (uN b) 64
 have n4:IntKind.i64.wrap ((uN b%64:Nat):Int)=((uN b%64:Nat):Int):=x08 (by omega) (by omega)
 have sz:(⟨#[109,117,108,104,117]⟩:ByteArray).size=5:=rfl
 have wl:IntKind.i64.wrap 4=4:=x08 (by decide) (by decide)
 have tn:((4:Int)).toNat=4:=rfl
 have lc:(⟨#[109,117,108,104,117]⟩:ByteArray)[4]?=some 117:=rfl
 first | refine zu (A:=x01) rfl rfl rfl rfl ?_ | refine zB (A:=x01) rfl rfl rfl rfl ?_
 simp only [x01,oD,cD,τ,φ,ι]
 simp only [SQ,SQB,zm,AOp.opds,step,Opd.get,zk,bin,zzc,IntKind.signed,zi,zj,zl,zb,unary,ze,zd,za,zo,zr,zh,zf,zg,zp,Cp.isFull,isNil,zq,simprocAttr,SQX,V.cells,x2h,List.cons.injEq,x0d,n1,n4,sz,lc,wl,tn,zn (c0 _ _),zn (cn _ _),zn (cp _ _),List.take_length,Nat.le_refl]
theorem xmA {base:Nat} (op a b:Int) (nm:ByteArray) (ha:I64 a) (hb:I64 b) (c0:∀ base h,WpF S0 base x09 [.sc (.int .i64 op)] h fun v h'=>v=.sc (.string nm)∧h'=h) (cn:∀ base h,WpF S0 base x03 [.sc (.string nm)] h fun v h'=>v=.sc (.string ⟨#[100,105,118]⟩)∧h'=h) (h:Heap):WpF S0 base x02 [.sc (.int .i64 op),.sc (.int .i64 a),.sc (.int .i64 b)] h fun v h'=>v=.sc (.int .i64 (quoI a b))∧h'=h:=by
 have cp:=fun base h=>xhq (base:=base) a b ha hb h
 have n1:(((uN b:Nat):Int)).tmod 64=((uN b%64:Nat):Int):=x1s (uN b) 64
 have n4:IntKind.i64.wrap ((uN b%64:Nat):Int)=((uN b%64:Nat):Int):=x08 (by omega) (by omega)
 have sz:(⟨#[100,105,118]⟩:ByteArray).size=3:=rfl
 have wl:IntKind.i64.wrap 2=2:=x08 (by decide) (by decide)
 have tn:((2:Int)).toNat=2:=rfl
 have lc:(⟨#[100,105,118]⟩:ByteArray)[2]?=some 118:=rfl
 first | refine zu (A:=x01) rfl rfl rfl rfl ?_ | refine zB (A:=x01) rfl rfl rfl rfl ?_
 simp only [x01,oD,cD,τ,φ,ι]
 simp only [SQ,SQB,zm,AOp.opds,step,Opd.get,zk,bin,zzc,IntKind.signed,zi,zj,zl,zb,unary,ze,zd,za,zo,zr,zh,zf,zg,zp,Cp.isFull,isNil,zq,simprocAttr,SQX,V.cells,x2h,List.cons.injEq,x0d,n1,n4,sz,lc,wl,tn,zn (c0 _ _),zn (cn _ _),zn (cp _ _),List.take_length,Nat.le_refl]
theorem xkp {base:Nat} (op a b:Int) (nm:ByteArray) (ha:I64 a) (hb:I64 b) (c0:∀ base h,WpF S0 base x09 [.sc (.int .i64 op)] h fun v h'=>v=.sc (.string nm)∧h'=h) (cn:∀ base h,WpF S0 base x03 [.sc (.string nm)] h fun v h'=>v=.sc (.string ⟨#[100,105,118,117]⟩)∧h'=h) (h:Heap):WpF S0 base x02 [.sc (.int .i64 op),.sc (.int .i64 a),.sc (.int .i64 b)] h fun v h'=>v=.sc (.int .i64 (quoU (uN a) (uN b)))∧h'=h:=by
 have cp:=fun base h=>xfj (base:=base) a b ha hb h
 have n1:(((uN b:Nat):Int)).tmod 64=((uN b%64:Nat):Int):=x1s (uN b) 64
 have n4:IntKind.i64.wrap ((uN b%64:Nat):Int)=((uN b%64:Nat):Int):=x08 (by omega) (by omega)
 have sz:(⟨#[100,105,118,117]⟩:ByteArray).size=4:=rfl
 have wl:IntKind.i64.wrap 3=3:=x08 (by decide) (by decide)
 have tn:((3:Int)).toNat=3:=rfl
 have lc:(⟨#[100,105,118,117]⟩:ByteArray)[3]?=some 117:=rfl
 first | refine zu (A:=x01) rfl rfl rfl rfl ?_ | refine zB (A:=x01) rfl rfl rfl rfl ?_
 simp only [x01,oD,cD,τ,φ,ι]
 simp only [SQ,SQB,zm,AOp.opds,step,Opd.get,zk,bin,zzc,IntKind.signed,zi,zj,zl,zb,unary,ze,zd,za,zo,zr,zh,zf,zg,zp,Cp.isFull,isNil,zq,simprocAttr,SQX,V.cells,x2h,List.cons.injEq,x0d,n1,n4,sz,lc,wl,tn,zn (c0 _ _),zn (cn _ _),zn (cp _ _),List.take_length,Nat.le_refl]
theorem xmx {base:Nat} (op a b:Int) (nm:ByteArray) (ha:I64 a) (hb:I64 b) (c0:∀ base h,WpF S0 base x09 [.sc (.int .i64 op)] h fun v h'=>v=.sc (.string nm)∧h'=h) (cn:∀ base h,WpF S0 base x03 [.sc (.string nm)] h fun v h'=>v=.sc (.string ⟨#[114,101,109]⟩)∧h'=h) (h:Heap):WpF S0 base x02 [.sc (.int .i64 op),.sc (.int .i64 a),.sc (.int .i64 b)] h fun v h'=>v=.sc (.int .i64 (remI a b))∧h'=h:=by
 have cp:=fun base h=>xho (base:=base) a b ha hb h
 have n1:(((uN b:Nat):Int)).tmod 64=((uN b%64:Nat):Int):=x1s (uN b) 64
 have n4:IntKind.i64.wrap ((uN b%64:Nat):Int)=((uN b%64:Nat):Int):=x08 (by omega) (by omega)
 have sz:(⟨#[114,101,109]⟩:ByteArray).size=3:=rfl
 have wl:IntKind.i64.wrap 2=2:=x08 (by decide) (by decide)
 have tn:((2:Int)).toNat=2:=rfl
 have lc:(⟨#[114,101,109]⟩:ByteArray)[2]?=some 109:=rfl
 first | refine zu (A:=x01) rfl rfl rfl rfl ?_ | refine zB (A:=x01) rfl rfl rfl rfl ?_
 simp only [x01,oD,cD,τ,φ,ι]
 simp only [SQ,SQB,zm,AOp.opds,step,Opd.get,zk,bin,zzc,IntKind.signed,zi,zj,zl,zb,unary,ze,zd,za,zo,zr,zh,zf,zg,zp,Cp.isFull,isNil,zq,simprocAttr,SQX,V.cells,x2h,List.cons.injEq,x0d,n1,n4,sz,lc,wl,tn,zn (c0 _ _),zn (cn _ _),zn (cp _ _),List.take_length,Nat.le_refl]
theorem xkl {base:Nat} (op a b:Int) (nm:ByteArray) (ha:I64 a) (hb:I64 b) (c0:∀ base h,WpF S0 base x09 [.sc (.int .i64 op)] h fun v h'=>v=.sc (.string nm)∧h'=h) (cn:∀ base h,WpF S0 base x03 [.sc (.string nm)] h fun v h'=>v=.sc (.string ⟨#[114,101,109,117]⟩)∧h'=h) (h:Heap):WpF S0 base x02 [.sc (.int .i64 op),.sc (.int .i64 a),.sc (.int .i64 b)] h fun v h'=>v=.sc (.int .i64 (remU (uN a) (uN b)))∧h'=h:=by
 have cp:=fun base h=>xfh (base:=base) a b ha hb h
 have n1:(((uN b:Nat):Int)).tmod 64=((uN b%64:Nat):Int):=x1s (uN b) 64
 have n4:IntKind.i64.wrap ((uN b%64:Nat):Int)=((uN b%64:Nat):Int):=x08 (by omega) (by omega)
 have sz:(⟨#[114,101,109,117]⟩:ByteArray).size=4:=rfl
 have wl:IntKind.i64.wrap 3=3:=x08 (by decide) (by decide)
 have tn:((3:Int)).toNat=3:=rfl
 have lc:(⟨#[114,101,109,117]⟩:ByteArray)[3]?=some 117:=rfl
 first | refine zu (A:=x01) rfl rfl rfl rfl ?_ | refine zB (A:=x01) rfl rfl rfl rfl ?_
 simp only [x01,oD,cD,τ,φ,ι]
 simp only [SQ,SQB,zm,AOp.opds,step,Opd.get,zk,bin,zzc,IntKind.signed,zi,zj,zl,zb,unary,ze,zd,za,zo,zr,zh,zf,zg,zp,Cp.isFull,isNil,zq,simprocAttr,SQX,V.cells,x2h,List.cons.injEq,x0d,n1,n4,sz,lc,wl,tn,zn (c0 _ _),zn (cn _ _),zn (cp _ _),List.take_length,Nat.le_refl]
theorem xgn {base:Nat} (op a b:Int) (nm:ByteArray) (ha:I64 a) (hb:I64 b) (c0:∀ base h,WpF S0 base x09 [.sc (.int .i64 op)] h fun v h'=>v=.sc (.string nm)∧h'=h) (cn:∀ base h,WpF S0 base x03 [.sc (.string nm)] h fun v h'=>v=.sc (.string ⟨#[97,100,100,119]⟩)∧h'=h) (h:Heap):WpF S0 base x02 [.sc (.int .i64 op),.sc (.int .i64 a),.sc (.int .i64 b)] h fun v h'=>v=.sc (.int .i64 (hlfI (w64 (a+b))))∧h'=h:=by
 have cs:=fun base h=>xdL (base:=base) a b h
 have n1:(((uN b:Nat):Int)).tmod 64=((uN b%64:Nat):Int):=x1s (uN b) 64
 have n4:IntKind.i64.wrap ((uN b%64:Nat):Int)=((uN b%64:Nat):Int):=x08 (by omega) (by omega)
 have sz:(⟨#[97,100,100,119]⟩:ByteArray).size=4:=rfl
 have wl:IntKind.i64.wrap 3=3:=x08 (by decide) (by decide)
 have tn:((3:Int)).toNat=3:=rfl
 have lc:(⟨#[97,100,100,119]⟩:ByteArray)[3]?=some 119:=rfl
 first | refine zu (A:=x01) rfl rfl rfl rfl ?_ | refine zB (A:=x01) rfl rfl rfl rfl ?_
 simp only [x01,oD,cD,τ,φ,ι]
 simp only [SQ,SQB,zm,AOp.opds,step,Opd.get,zk,bin,zzc,IntKind.signed,zi,zj,zl,zb,unary,ze,zd,za,zo,zr,zh,zf,zg,zp,Cp.isFull,isNil,zq,simprocAttr,SQX,V.cells,x2h,List.cons.injEq,x0d,n1,n4,sz,lc,wl,tn,zn (c0 _ _),zn (cn _ _),zn (cs _ _),List.take_length,Nat.le_refl]
theorem xkj {base:Nat} (op a b:Int) (nm:ByteArray) (ha:I64 a) (hb:I64 b) (c0:∀ base h,WpF S0 base x09 [.sc (.int .i64 op)] h fun v h'=>v=.sc (.string nm)∧h'=h) (cn:∀ base h,WpF S0 base x03 [.sc (.string nm)] h fun v h'=>v=.sc (.string ⟨#[115,117,98,119]⟩)∧h'=h) (h:Heap):WpF S0 base x02 [.sc (.int .i64 op),.sc (.int .i64 a),.sc (.int .i64 b)] h fun v h'=>v=.sc (.int .i64 (hlfI (w64 (a-b))))∧h'=h:=by
 have cs:=fun base h=>xdE (base:=base) a b h
 have n1:(((uN b:Nat):Int)).tmod 64=((uN b%64:Nat):Int):=x1s (uN b) 64
 have n4:IntKind.i64.wrap ((uN b%64:Nat):Int)=((uN b%64:Nat):Int):=x08 (by omega) (by omega)
 have sz:(⟨#[115,117,98,119]⟩:ByteArray).size=4:=rfl
 have wl:IntKind.i64.wrap 3=3:=x08 (by decide) (by decide)
 have tn:((3:Int)).toNat=3:=rfl
 have lc:(⟨#[115,117,98,119]⟩:ByteArray)[3]?=some 119:=rfl
 first | refine zu (A:=x01) rfl rfl rfl rfl ?_ | refine zB (A:=x01) rfl rfl rfl rfl ?_
 simp only [x01,oD,cD,τ,φ,ι]
 simp only [SQ,SQB,zm,AOp.opds,step,Opd.get,zk,bin,zzc,IntKind.signed,zi,zj,zl,zb,unary,ze,zd,za,zo,zr,zh,zf,zg,zp,Cp.isFull,isNil,zq,simprocAttr,SQX,V.cells,x2h,List.cons.injEq,x0d,n1,n4,sz,lc,wl,tn,zn (c0 _ _),zn (cn _ _),zn (cs _ _),List.take_length,Nat.le_refl]
theorem xgl {base:Nat} (op a b:Int) (nm:ByteArray) (ha:I64 a) (hb:I64 b) (c0:∀ base h,WpF S0 base x09 [.sc (.int .i64 op)] h fun v h'=>v=.sc (.string nm)∧h'=h) (cn:∀ base h,WpF S0 base x03 [.sc (.string nm)] h fun v h'=>v=.sc (.string ⟨#[115,108,108,119]⟩)∧h'=h) (h:Heap):WpF S0 base x02 [.sc (.int .i64 op),.sc (.int .i64 a),.sc (.int .i64 b)] h fun v h'=>v=.sc (.int .i64 (hlfI (w64 (a*2 ^ (uN b%32)))))∧h'=h:=by
 have cs:=fun base h=>xdH (base:=base) a b h
 have n1:(((uN b:Nat):Int)).tmod 64=((uN b%64:Nat):Int):=x1s (uN b) 64
 have n4:IntKind.i64.wrap ((uN b%64:Nat):Int)=((uN b%64:Nat):Int):=x08 (by omega) (by omega)
 have sz:(⟨#[115,108,108,119]⟩:ByteArray).size=4:=rfl
 have wl:IntKind.i64.wrap 3=3:=x08 (by decide) (by decide)
 have tn:((3:Int)).toNat=3:=rfl
 have lc:(⟨#[115,108,108,119]⟩:ByteArray)[3]?=some 119:=rfl
 first | refine zu (A:=x01) rfl rfl rfl rfl ?_ | refine zB (A:=x01) rfl rfl rfl rfl ?_
 simp only [x01,oD,cD,τ,φ,ι]
 simp only [SQ,SQB,zm,AOp.opds,step,Opd.get,zk,bin,zzc,IntKind.signed,zi,zj,zl,zb,unary,ze,zd,za,zo,zr,zh,zf,zg,zp,Cp.isFull,isNil,zq,simprocAttr,SQX,V.cells,x2h,List.cons.injEq,x0d,n1,n4,sz,lc,wl,tn,zn (c0 _ _),zn (cn _ _),zn (cs _ _),List.take_length,Nat.le_refl]
theorem xgi {base:Nat} (op a b:Int) (nm:ByteArray) (ha:I64 a) (hb:I64 b) (c0:∀ base h,WpF S0 base x09 [.sc (.int .i64 op)] h fun v h'=>v=.sc (.string nm)∧h'=h) (cn:∀ base h,WpF S0 base x03 [.sc (.string nm)] h fun v h'=>v=.sc (.string ⟨#[115,114,108,119]⟩)∧h'=h) (h:Heap):WpF S0 base x02 [.sc (.int .i64 op),.sc (.int .i64 a),.sc (.int .i64 b)] h fun v h'=>v=.sc (.int .i64 (hlfI ((uN a%4294967296/2 ^ (uN b%32):Nat))))∧h'=h:=by
 have cs:=fun base h=>xdF (base:=base) a b h
 have n1:(((uN b:Nat):Int)).tmod 64=((uN b%64:Nat):Int):=x1s (uN b) 64
 have n4:IntKind.i64.wrap ((uN b%64:Nat):Int)=((uN b%64:Nat):Int):=x08 (by omega) (by omega)
 have sz:(⟨#[115,114,108,119]⟩:ByteArray).size=4:=rfl
 have wl:IntKind.i64.wrap 3=3:=x08 (by decide) (by decide)
 have tn:((3:Int)).toNat=3:=rfl
 have lc:(⟨#[115,114,108,119]⟩:ByteArray)[3]?=some 119:=rfl
 first | refine zu (A:=x01) rfl rfl rfl rfl ?_ | refine zB (A:=x01) rfl rfl rfl rfl ?_
 simp only [x01,oD,cD,τ,φ,ι]
 simp only [SQ,SQB,zm,AOp.opds,step,Opd.get,zk,bin,zzc,IntKind.signed,zi,zj,zl,zb,unary,ze,zd,za,zo,zr,zh,zf,zg,zp,Cp.isFull,isNil,zq,simprocAttr,SQX,V.cells,x2h,List.cons.injEq,x0d,n1,n4,sz,lc,wl,tn,zn (c0 _ _),zn (cn _ _),zn (cs _ _),List.take_length,Nat.le_refl]
theorem xgj {base:Nat} (op a b:Int) (nm:ByteArray) (ha:I64 a) (hb:I64 b) (c0:∀ base h,WpF S0 base x09 [.sc (.int .i64 op)] h fun v h'=>v=.sc (.string nm)∧h'=h) (cn:∀ base h,WpF S0 base x03 [.sc (.string nm)] h fun v h'=>v=.sc (.string ⟨#[115,114,97,119]⟩)∧h'=h) (h:Heap):WpF S0 base x02 [.sc (.int .i64 op),.sc (.int .i64 a),.sc (.int .i64 b)] h fun v h'=>v=.sc (.int .i64 ((hlfI a).fdiv (2 ^ (uN b%32))))∧h'=h:=by
 have cs:=fun base h=>xdG (base:=base) a b h
 have n1:(((uN b:Nat):Int)).tmod 64=((uN b%64:Nat):Int):=x1s (uN b) 64
 have n4:IntKind.i64.wrap ((uN b%64:Nat):Int)=((uN b%64:Nat):Int):=x08 (by omega) (by omega)
 have sz:(⟨#[115,114,97,119]⟩:ByteArray).size=4:=rfl
 have wl:IntKind.i64.wrap 3=3:=x08 (by decide) (by decide)
 have tn:((3:Int)).toNat=3:=rfl
 have lc:(⟨#[115,114,97,119]⟩:ByteArray)[3]?=some 119:=rfl
 first | refine zu (A:=x01) rfl rfl rfl rfl ?_ | refine zB (A:=x01) rfl rfl rfl rfl ?_
 simp only [x01,oD,cD,τ,φ,ι]
 simp only [SQ,SQB,zm,AOp.opds,step,Opd.get,zk,bin,zzc,IntKind.signed,zi,zj,zl,zb,unary,ze,zd,za,zo,zr,zh,zf,zg,zp,Cp.isFull,isNil,zq,simprocAttr,SQX,V.cells,x2h,List.cons.injEq,x0d,n1,n4,sz,lc,wl,tn,zn (c0 _ _),zn (cn _ _),zn (cs _ _),List.take_length,Nat.le_refl]
theorem xkm {base:Nat} (op a b:Int) (nm:ByteArray) (ha:I64 a) (hb:I64 b) (c0:∀ base h,WpF S0 base x09 [.sc (.int .i64 op)] h fun v h'=>v=.sc (.string nm)∧h'=h) (cn:∀ base h,WpF S0 base x03 [.sc (.string nm)] h fun v h'=>v=.sc (.string ⟨#[109,117,108,119]⟩)∧h'=h) (h:Heap):WpF S0 base x02 [.sc (.int .i64 op),.sc (.int .i64 a),.sc (.int .i64 b)] h fun v h'=>v=.sc (.int .i64 (hlfI (w64 (a*b))))∧h'=h:=by
 have cs:=fun base h=>xdJ (base:=base) a b h
 have n1:(((uN b:Nat):Int)).tmod 64=((uN b%64:Nat):Int):=x1s (uN b) 64
 have n4:IntKind.i64.wrap ((uN b%64:Nat):Int)=((uN b%64:Nat):Int):=x08 (by omega) (by omega)
 have sz:(⟨#[109,117,108,119]⟩:ByteArray).size=4:=rfl
 have wl:IntKind.i64.wrap 3=3:=x08 (by decide) (by decide)
 have tn:((3:Int)).toNat=3:=rfl
 have lc:(⟨#[109,117,108,119]⟩:ByteArray)[3]?=some 119:=rfl
 first | refine zu (A:=x01) rfl rfl rfl rfl ?_ | refine zB (A:=x01) rfl rfl rfl rfl ?_
 simp only [x01,oD,cD,τ,φ,ι]
 simp only [SQ,SQB,zm,AOp.opds,step,Opd.get,zk,bin,zzc,IntKind.signed,zi,zj,zl,zb,unary,ze,zd,za,zo,zr,zh,zf,zg,zp,Cp.isFull,isNil,zq,simprocAttr,SQX,V.cells,x2h,List.cons.injEq,x0d,n1,n4,sz,lc,wl,tn,zn (c0 _ _),zn (cn _ _),zn (cs _ _),List.take_length,Nat.le_refl]
theorem xko {base:Nat} (op a b:Int) (nm:ByteArray) (ha:I64 a) (hb:I64 b) (c0:∀ base h,WpF S0 base x09 [.sc (.int .i64 op)] h fun v h'=>v=.sc (.string nm)∧h'=h) (cn:∀ base h,WpF S0 base x03 [.sc (.string nm)] h fun v h'=>v=.sc (.string ⟨#[100,105,118,119]⟩)∧h'=h) (h:Heap):WpF S0 base x02 [.sc (.int .i64 op),.sc (.int .i64 a),.sc (.int .i64 b)] h fun v h'=>v=.sc (.int .i64 (hlfI (quoI (hlfI a) (hlfI b))))∧h'=h:=by
 have cs:=fun base h=>xdK (base:=base) a b h
 have n1:(((uN b:Nat):Int)).tmod 64=((uN b%64:Nat):Int):=x1s (uN b) 64
 have n4:IntKind.i64.wrap ((uN b%64:Nat):Int)=((uN b%64:Nat):Int):=x08 (by omega) (by omega)
 have sz:(⟨#[100,105,118,119]⟩:ByteArray).size=4:=rfl
 have wl:IntKind.i64.wrap 3=3:=x08 (by decide) (by decide)
 have tn:((3:Int)).toNat=3:=rfl
 have lc:(⟨#[100,105,118,119]⟩:ByteArray)[3]?=some 119:=rfl
 first | refine zu (A:=x01) rfl rfl rfl rfl ?_ | refine zB (A:=x01) rfl rfl rfl rfl ?_
 simp only [x01,oD,cD,τ,φ,ι]
 simp only [SQ,SQB,zm,AOp.opds,step,Opd.get,zk,bin,zzc,IntKind.signed,zi,zj,zl,zb,unary,ze,zd,za,zo,zr,zh,zf,zg,zp,Cp.isFull,isNil,zq,simprocAttr,SQX,V.cells,x2h,List.cons.injEq,x0d,n1,n4,sz,lc,wl,tn,zn (c0 _ _),zn (cn _ _),zn (cs _ _),List.take_length,Nat.le_refl]
theorem xi3 {base:Nat} (op a b:Int) (nm:ByteArray) (ha:I64 a) (hb:I64 b) (c0:∀ base h,WpF S0 base x09 [.sc (.int .i64 op)] h fun v h'=>v=.sc (.string nm)∧h'=h) (cn:∀ base h,WpF S0 base x03 [.sc (.string nm)] h fun v h'=>v=.sc (.string ⟨#[100,105,118,117,119]⟩)∧h'=h) (h:Heap):WpF S0 base x02 [.sc (.int .i64 op),.sc (.int .i64 a),.sc (.int .i64 b)] h fun v h'=>v=.sc (.int .i64 (hlfI (quoU (uN a%4294967296) (uN b%4294967296))))∧h'=h:=by
 have cs:=fun base h=>xbA (base:=base) a b h
 have n1:(((uN b:Nat):Int)).tmod 64=((uN b%64:Nat):Int):=x1s (uN b) 64
 have n4:IntKind.i64.wrap ((uN b%64:Nat):Int)=((uN b%64:Nat):Int):=x08 (by omega) (by omega)
 have sz:(⟨#[100,105,118,117,119]⟩:ByteArray).size=5:=rfl
 have wl:IntKind.i64.wrap 4=4:=x08 (by decide) (by decide)
 have tn:((4:Int)).toNat=4:=rfl
 have lc:(⟨#[100,105,118,117,119]⟩:ByteArray)[4]?=some 119:=rfl
 first | refine zu (A:=x01) rfl rfl rfl rfl ?_ | refine zB (A:=x01) rfl rfl rfl rfl ?_
 simp only [x01,oD,cD,τ,φ,ι]
 simp only [SQ,SQB,zm,AOp.opds,step,Opd.get,zk,bin,zzc,IntKind.signed,zi,zj,zl,zb,unary,ze,zd,za,zo,zr,zh,zf,zg,zp,Cp.isFull,isNil,zq,simprocAttr,SQX,V.cells,x2h,List.cons.injEq,x0d,n1,n4,sz,lc,wl,tn,zn (c0 _ _),zn (cn _ _),zn (cs _ _),List.take_length,Nat.le_refl]
theorem xkk {base:Nat} (op a b:Int) (nm:ByteArray) (ha:I64 a) (hb:I64 b) (c0:∀ base h,WpF S0 base x09 [.sc (.int .i64 op)] h fun v h'=>v=.sc (.string nm)∧h'=h) (cn:∀ base h,WpF S0 base x03 [.sc (.string nm)] h fun v h'=>v=.sc (.string ⟨#[114,101,109,119]⟩)∧h'=h) (h:Heap):WpF S0 base x02 [.sc (.int .i64 op),.sc (.int .i64 a),.sc (.int .i64 b)] h fun v h'=>v=.sc (.int .i64 (hlfI (remI (hlfI a) (hlfI b))))∧h'=h:=by
 have cs:=fun base h=>xdI (base:=base) a b h
 have n1:(((uN b:Nat):Int)).tmod 64=((uN b%64:Nat):Int):=x1s (uN b) 64
 have n4:IntKind.i64.wrap ((uN b%64:Nat):Int)=((uN b%64:Nat):Int):=x08 (by omega) (by omega)
 have sz:(⟨#[114,101,109,119]⟩:ByteArray).size=4:=rfl
 have wl:IntKind.i64.wrap 3=3:=x08 (by decide) (by decide)
 have tn:((3:Int)).toNat=3:=rfl
 have lc:(⟨#[114,101,109,119]⟩:ByteArray)[3]?=some 119:=rfl
 first | refine zu (A:=x01) rfl rfl rfl rfl ?_ | refine zB (A:=x01) rfl rfl rfl rfl ?_
 simp only [x01,oD,cD,τ,φ,ι]
 simp only [SQ,SQB,zm,AOp.opds,step,Opd.get,zk,bin,zzc,IntKind.signed,zi,zj,zl,zb,unary,ze,zd,za,zo,zr,zh,zf,zg,zp,Cp.isFull,isNil,zq,simprocAttr,SQX,V.cells,x2h,List.cons.injEq,x0d,n1,n4,sz,lc,wl,tn,zn (c0 _ _),zn (cn _ _),zn (cs _ _),List.take_length,Nat.le_refl]
theorem xi1 {base:Nat} (op a b:Int) (nm:ByteArray) (ha:I64 a) (hb:I64 b) (c0:∀ base h,WpF S0 base x09 [.sc (.int .i64 op)] h fun v h'=>v=.sc (.string nm)∧h'=h) (cn:∀ base h,WpF S0 base x03 [.sc (.string nm)] h fun v h'=>v=.sc (.string ⟨#[114,101,109,117,119]⟩)∧h'=h) (h:Heap):WpF S0 base x02 [.sc (.int .i64 op),.sc (.int .i64 a),.sc (.int .i64 b)] h fun v h'=>v=.sc (.int .i64 (hlfI (remU (uN a%4294967296) (uN b%4294967296))))∧h'=h:=by
 have cs:=fun base h=>xbz (base:=base) a b h
 have n1:(((uN b:Nat):Int)).tmod 64=((uN b%64:Nat):Int):=x1s (uN b) 64
 have n4:IntKind.i64.wrap ((uN b%64:Nat):Int)=((uN b%64:Nat):Int):=x08 (by omega) (by omega)
 have sz:(⟨#[114,101,109,117,119]⟩:ByteArray).size=5:=rfl
 have wl:IntKind.i64.wrap 4=4:=x08 (by decide) (by decide)
 have tn:((4:Int)).toNat=4:=rfl
 have lc:(⟨#[114,101,109,117,119]⟩:ByteArray)[4]?=some 119:=rfl
 first | refine zu (A:=x01) rfl rfl rfl rfl ?_ | refine zB (A:=x01) rfl rfl rfl rfl ?_
 simp only [x01,oD,cD,τ,φ,ι]
 simp only [SQ,SQB,zm,AOp.opds,step,Opd.get,zk,bin,zzc,IntKind.signed,zi,zj,zl,zb,unary,ze,zd,za,zo,zr,zh,zf,zg,zp,Cp.isFull,isNil,zq,simprocAttr,SQX,V.cells,x2h,List.cons.injEq,x0d,n1,n4,sz,lc,wl,tn,zn (c0 _ _),zn (cn _ _),zn (cs _ _),List.take_length,Nat.le_refl]
end
section
theorem xon (base:Nat) (h:Heap):x0j Xt Ft 20 base x03 [.sc (.string ⟨#[97,100,100,105]⟩)] h=some (.sc (.string ⟨#[97,100,100]⟩),h):=by kernel_rfl
theorem xmu {base:Nat} (a b:Int) (ha:I64 a) (hb:I64 b) (h:Heap):WpF S0 base x02 [.sc (.int .i64 22),.sc (.int .i64 a),.sc (.int .i64 b)] h fun v h'=>v=.sc (.int .i64 (x1X 22 a b))∧h'=h :=
 xj5 22 a b ⟨#[97,100,100,105]⟩ ha hb (fun _ h=>x0I 22 (by decide) (by decide) ⟨#[97,100,100,105]⟩ rfl h) (fun base h=>⟨20,_,_,xon base h,rfl,rfl⟩) h
theorem xom (base:Nat) (h:Heap):x0j Xt Ft 20 base x03 [.sc (.string ⟨#[115,108,116,105]⟩)] h=some (.sc (.string ⟨#[115,108,116]⟩),h):=by kernel_rfl
theorem xmt {base:Nat} (a b:Int) (ha:I64 a) (hb:I64 b) (h:Heap):WpF S0 base x02 [.sc (.int .i64 23),.sc (.int .i64 a),.sc (.int .i64 b)] h fun v h'=>v=.sc (.int .i64 (x1X 23 a b))∧h'=h :=
 xj2 23 a b ⟨#[115,108,116,105]⟩ ha hb (fun _ h=>x0I 23 (by decide) (by decide) ⟨#[115,108,116,105]⟩ rfl h) (fun base h=>⟨20,_,_,xom base h,rfl,rfl⟩) h
theorem xol (base:Nat) (h:Heap):x0j Xt Ft 20 base x03 [.sc (.string ⟨#[115,108,116,105,117]⟩)] h=some (.sc (.string ⟨#[115,108,116,117]⟩),h):=by kernel_rfl
theorem xms {base:Nat} (a b:Int) (ha:I64 a) (hb:I64 b) (h:Heap):WpF S0 base x02 [.sc (.int .i64 24),.sc (.int .i64 a),.sc (.int .i64 b)] h fun v h'=>v=.sc (.int .i64 (x1X 24 a b))∧h'=h :=
 xgk 24 a b ⟨#[115,108,116,105,117]⟩ ha hb (fun _ h=>x0I 24 (by decide) (by decide) ⟨#[115,108,116,105,117]⟩ rfl h) (fun base h=>⟨20,_,_,xol base h,rfl,rfl⟩) h
theorem xok (base:Nat) (h:Heap):x0j Xt Ft 20 base x03 [.sc (.string ⟨#[120,111,114,105]⟩)] h=some (.sc (.string ⟨#[120,111,114]⟩),h):=by kernel_rfl
theorem xmr {base:Nat} (a b:Int) (ha:I64 a) (hb:I64 b) (h:Heap):WpF S0 base x02 [.sc (.int .i64 25),.sc (.int .i64 a),.sc (.int .i64 b)] h fun v h'=>v=.sc (.int .i64 (x1X 25 a b))∧h'=h :=
 xiZ 25 a b ⟨#[120,111,114,105]⟩ ha hb (fun _ h=>x0I 25 (by decide) (by decide) ⟨#[120,111,114,105]⟩ rfl h) (fun base h=>⟨20,_,_,xok base h,rfl,rfl⟩) h
theorem xoj (base:Nat) (h:Heap):x0j Xt Ft 20 base x03 [.sc (.string ⟨#[111,114,105]⟩)] h=some (.sc (.string ⟨#[111,114]⟩),h):=by kernel_rfl
theorem xmq {base:Nat} (a b:Int) (ha:I64 a) (hb:I64 b) (h:Heap):WpF S0 base x02 [.sc (.int .i64 26),.sc (.int .i64 a),.sc (.int .i64 b)] h fun v h'=>v=.sc (.int .i64 (x1X 26 a b))∧h'=h :=
 xmy 26 a b ⟨#[111,114,105]⟩ ha hb (fun _ h=>x0I 26 (by decide) (by decide) ⟨#[111,114,105]⟩ rfl h) (fun base h=>⟨20,_,_,xoj base h,rfl,rfl⟩) h
theorem xoi (base:Nat) (h:Heap):x0j Xt Ft 20 base x03 [.sc (.string ⟨#[97,110,100,105]⟩)] h=some (.sc (.string ⟨#[97,110,100]⟩),h):=by kernel_rfl
theorem xmp {base:Nat} (a b:Int) (ha:I64 a) (hb:I64 b) (h:Heap):WpF S0 base x02 [.sc (.int .i64 27),.sc (.int .i64 a),.sc (.int .i64 b)] h fun v h'=>v=.sc (.int .i64 (x1X 27 a b))∧h'=h :=
 xj4 27 a b ⟨#[97,110,100,105]⟩ ha hb (fun _ h=>x0I 27 (by decide) (by decide) ⟨#[97,110,100,105]⟩ rfl h) (fun base h=>⟨20,_,_,xoi base h,rfl,rfl⟩) h
theorem xoh (base:Nat) (h:Heap):x0j Xt Ft 20 base x03 [.sc (.string ⟨#[115,108,108,105]⟩)] h=some (.sc (.string ⟨#[115,108,108]⟩),h):=by kernel_rfl
theorem xmo {base:Nat} (a b:Int) (ha:I64 a) (hb:I64 b) (h:Heap):WpF S0 base x02 [.sc (.int .i64 28),.sc (.int .i64 a),.sc (.int .i64 b)] h fun v h'=>v=.sc (.int .i64 (x1X 28 a b))∧h'=h :=
 xj3 28 a b ⟨#[115,108,108,105]⟩ ha hb (fun _ h=>x0I 28 (by decide) (by decide) ⟨#[115,108,108,105]⟩ rfl h) (fun base h=>⟨20,_,_,xoh base h,rfl,rfl⟩) h
theorem xog (base:Nat) (h:Heap):x0j Xt Ft 20 base x03 [.sc (.string ⟨#[115,114,108,105]⟩)] h=some (.sc (.string ⟨#[115,114,108]⟩),h):=by kernel_rfl
theorem xmn {base:Nat} (a b:Int) (ha:I64 a) (hb:I64 b) (h:Heap):WpF S0 base x02 [.sc (.int .i64 29),.sc (.int .i64 a),.sc (.int .i64 b)] h fun v h'=>v=.sc (.int .i64 (x1X 29 a b))∧h'=h :=
 xj0 29 a b ⟨#[115,114,108,105]⟩ ha hb (fun _ h=>x0I 29 (by decide) (by decide) ⟨#[115,114,108,105]⟩ rfl h) (fun base h=>⟨20,_,_,xog base h,rfl,rfl⟩) h
theorem xof (base:Nat) (h:Heap):x0j Xt Ft 20 base x03 [.sc (.string ⟨#[115,114,97,105]⟩)] h=some (.sc (.string ⟨#[115,114,97]⟩),h):=by kernel_rfl
theorem xmm {base:Nat} (a b:Int) (ha:I64 a) (hb:I64 b) (h:Heap):WpF S0 base x02 [.sc (.int .i64 30),.sc (.int .i64 a),.sc (.int .i64 b)] h fun v h'=>v=.sc (.int .i64 (x1X 30 a b))∧h'=h :=
 xj1 30 a b ⟨#[115,114,97,105]⟩ ha hb (fun _ h=>x0I 30 (by decide) (by decide) ⟨#[115,114,97,105]⟩ rfl h) (fun base h=>⟨20,_,_,xof base h,rfl,rfl⟩) h
theorem xoe (base:Nat) (h:Heap):x0j Xt Ft 20 base x03 [.sc (.string ⟨#[97,100,100,105,119]⟩)] h=some (.sc (.string ⟨#[97,100,100,119]⟩),h):=by kernel_rfl
theorem xml {base:Nat} (a b:Int) (ha:I64 a) (hb:I64 b) (h:Heap):WpF S0 base x02 [.sc (.int .i64 31),.sc (.int .i64 a),.sc (.int .i64 b)] h fun v h'=>v=.sc (.int .i64 (x1X 31 a b))∧h'=h :=
 xgn 31 a b ⟨#[97,100,100,105,119]⟩ ha hb (fun _ h=>x0I 31 (by decide) (by decide) ⟨#[97,100,100,105,119]⟩ rfl h) (fun base h=>⟨20,_,_,xoe base h,rfl,rfl⟩) h
theorem xod (base:Nat) (h:Heap):x0j Xt Ft 20 base x03 [.sc (.string ⟨#[115,108,108,105,119]⟩)] h=some (.sc (.string ⟨#[115,108,108,119]⟩),h):=by kernel_rfl
theorem xmk {base:Nat} (a b:Int) (ha:I64 a) (hb:I64 b) (h:Heap):WpF S0 base x02 [.sc (.int .i64 32),.sc (.int .i64 a),.sc (.int .i64 b)] h fun v h'=>v=.sc (.int .i64 (x1X 32 a b))∧h'=h :=
 xgl 32 a b ⟨#[115,108,108,105,119]⟩ ha hb (fun _ h=>x0I 32 (by decide) (by decide) ⟨#[115,108,108,105,119]⟩ rfl h) (fun base h=>⟨20,_,_,xod base h,rfl,rfl⟩) h
theorem xoc (base:Nat) (h:Heap):x0j Xt Ft 20 base x03 [.sc (.string ⟨#[115,114,108,105,119]⟩)] h=some (.sc (.string ⟨#[115,114,108,119]⟩),h):=by kernel_rfl
theorem xmj {base:Nat} (a b:Int) (ha:I64 a) (hb:I64 b) (h:Heap):WpF S0 base x02 [.sc (.int .i64 33),.sc (.int .i64 a),.sc (.int .i64 b)] h fun v h'=>v=.sc (.int .i64 (x1X 33 a b))∧h'=h :=
 xgi 33 a b ⟨#[115,114,108,105,119]⟩ ha hb (fun _ h=>x0I 33 (by decide) (by decide) ⟨#[115,114,108,105,119]⟩ rfl h) (fun base h=>⟨20,_,_,xoc base h,rfl,rfl⟩) h
theorem xob (base:Nat) (h:Heap):x0j Xt Ft 20 base x03 [.sc (.string ⟨#[115,114,97,105,119]⟩)] h=some (.sc (.string ⟨#[115,114,97,119]⟩),h):=by kernel_rfl
theorem xmi {base:Nat} (a b:Int) (ha:I64 a) (hb:I64 b) (h:Heap):WpF S0 base x02 [.sc (.int .i64 34),.sc (.int .i64 a),.sc (.int .i64 b)] h fun v h'=>v=.sc (.int .i64 (x1X 34 a b))∧h'=h :=
 xgj 34 a b ⟨#[115,114,97,105,119]⟩ ha hb (fun _ h=>x0I 34 (by decide) (by decide) ⟨#[115,114,97,105,119]⟩ rfl h) (fun base h=>⟨20,_,_,xob base h,rfl,rfl⟩) h
theorem xoa (base:Nat) (h:Heap):x0j Xt Ft 20 base x03 [.sc (.string ⟨#[97,100,100]⟩)] h=some (.sc (.string ⟨#[97,100,100]⟩),h):=by kernel_rfl
theorem xmh {base:Nat} (a b:Int) (ha:I64 a) (hb:I64 b) (h:Heap):WpF S0 base x02 [.sc (.int .i64 35),.sc (.int .i64 a),.sc (.int .i64 b)] h fun v h'=>v=.sc (.int .i64 (x1X 35 a b))∧h'=h :=
 xj5 35 a b ⟨#[97,100,100]⟩ ha hb (fun _ h=>x0I 35 (by decide) (by decide) ⟨#[97,100,100]⟩ rfl h) (fun base h=>⟨20,_,_,xoa base h,rfl,rfl⟩) h
theorem xo9 (base:Nat) (h:Heap):x0j Xt Ft 20 base x03 [.sc (.string ⟨#[115,117,98]⟩)] h=some (.sc (.string ⟨#[115,117,98]⟩),h):=by kernel_rfl
theorem xmg {base:Nat} (a b:Int) (ha:I64 a) (hb:I64 b) (h:Heap):WpF S0 base x02 [.sc (.int .i64 36),.sc (.int .i64 a),.sc (.int .i64 b)] h fun v h'=>v=.sc (.int .i64 (x1X 36 a b))∧h'=h :=
 xmw 36 a b ⟨#[115,117,98]⟩ ha hb (fun _ h=>x0I 36 (by decide) (by decide) ⟨#[115,117,98]⟩ rfl h) (fun base h=>⟨20,_,_,xo9 base h,rfl,rfl⟩) h
theorem xo8 (base:Nat) (h:Heap):x0j Xt Ft 20 base x03 [.sc (.string ⟨#[115,108,108]⟩)] h=some (.sc (.string ⟨#[115,108,108]⟩),h):=by kernel_rfl
theorem xmf {base:Nat} (a b:Int) (ha:I64 a) (hb:I64 b) (h:Heap):WpF S0 base x02 [.sc (.int .i64 37),.sc (.int .i64 a),.sc (.int .i64 b)] h fun v h'=>v=.sc (.int .i64 (x1X 37 a b))∧h'=h :=
 xj3 37 a b ⟨#[115,108,108]⟩ ha hb (fun _ h=>x0I 37 (by decide) (by decide) ⟨#[115,108,108]⟩ rfl h) (fun base h=>⟨20,_,_,xo8 base h,rfl,rfl⟩) h
theorem xo7 (base:Nat) (h:Heap):x0j Xt Ft 20 base x03 [.sc (.string ⟨#[115,108,116]⟩)] h=some (.sc (.string ⟨#[115,108,116]⟩),h):=by kernel_rfl
theorem xme {base:Nat} (a b:Int) (ha:I64 a) (hb:I64 b) (h:Heap):WpF S0 base x02 [.sc (.int .i64 38),.sc (.int .i64 a),.sc (.int .i64 b)] h fun v h'=>v=.sc (.int .i64 (x1X 38 a b))∧h'=h :=
 xj2 38 a b ⟨#[115,108,116]⟩ ha hb (fun _ h=>x0I 38 (by decide) (by decide) ⟨#[115,108,116]⟩ rfl h) (fun base h=>⟨20,_,_,xo7 base h,rfl,rfl⟩) h
theorem xo6 (base:Nat) (h:Heap):x0j Xt Ft 20 base x03 [.sc (.string ⟨#[115,108,116,117]⟩)] h=some (.sc (.string ⟨#[115,108,116,117]⟩),h):=by kernel_rfl
theorem xmd {base:Nat} (a b:Int) (ha:I64 a) (hb:I64 b) (h:Heap):WpF S0 base x02 [.sc (.int .i64 39),.sc (.int .i64 a),.sc (.int .i64 b)] h fun v h'=>v=.sc (.int .i64 (x1X 39 a b))∧h'=h :=
 xgk 39 a b ⟨#[115,108,116,117]⟩ ha hb (fun _ h=>x0I 39 (by decide) (by decide) ⟨#[115,108,116,117]⟩ rfl h) (fun base h=>⟨20,_,_,xo6 base h,rfl,rfl⟩) h
theorem xo5 (base:Nat) (h:Heap):x0j Xt Ft 20 base x03 [.sc (.string ⟨#[120,111,114]⟩)] h=some (.sc (.string ⟨#[120,111,114]⟩),h):=by kernel_rfl
theorem xmc {base:Nat} (a b:Int) (ha:I64 a) (hb:I64 b) (h:Heap):WpF S0 base x02 [.sc (.int .i64 40),.sc (.int .i64 a),.sc (.int .i64 b)] h fun v h'=>v=.sc (.int .i64 (x1X 40 a b))∧h'=h :=
 xiZ 40 a b ⟨#[120,111,114]⟩ ha hb (fun _ h=>x0I 40 (by decide) (by decide) ⟨#[120,111,114]⟩ rfl h) (fun base h=>⟨20,_,_,xo5 base h,rfl,rfl⟩) h
theorem xo4 (base:Nat) (h:Heap):x0j Xt Ft 20 base x03 [.sc (.string ⟨#[115,114,108]⟩)] h=some (.sc (.string ⟨#[115,114,108]⟩),h):=by kernel_rfl
theorem xmb {base:Nat} (a b:Int) (ha:I64 a) (hb:I64 b) (h:Heap):WpF S0 base x02 [.sc (.int .i64 41),.sc (.int .i64 a),.sc (.int .i64 b)] h fun v h'=>v=.sc (.int .i64 (x1X 41 a b))∧h'=h :=
 xj0 41 a b ⟨#[115,114,108]⟩ ha hb (fun _ h=>x0I 41 (by decide) (by decide) ⟨#[115,114,108]⟩ rfl h) (fun base h=>⟨20,_,_,xo4 base h,rfl,rfl⟩) h
theorem xo3 (base:Nat) (h:Heap):x0j Xt Ft 20 base x03 [.sc (.string ⟨#[115,114,97]⟩)] h=some (.sc (.string ⟨#[115,114,97]⟩),h):=by kernel_rfl
theorem xma {base:Nat} (a b:Int) (ha:I64 a) (hb:I64 b) (h:Heap):WpF S0 base x02 [.sc (.int .i64 42),.sc (.int .i64 a),.sc (.int .i64 b)] h fun v h'=>v=.sc (.int .i64 (x1X 42 a b))∧h'=h :=
 xj1 42 a b ⟨#[115,114,97]⟩ ha hb (fun _ h=>x0I 42 (by decide) (by decide) ⟨#[115,114,97]⟩ rfl h) (fun base h=>⟨20,_,_,xo3 base h,rfl,rfl⟩) h
theorem xo2 (base:Nat) (h:Heap):x0j Xt Ft 20 base x03 [.sc (.string ⟨#[111,114]⟩)] h=some (.sc (.string ⟨#[111,114]⟩),h):=by kernel_rfl
theorem xm9 {base:Nat} (a b:Int) (ha:I64 a) (hb:I64 b) (h:Heap):WpF S0 base x02 [.sc (.int .i64 43),.sc (.int .i64 a),.sc (.int .i64 b)] h fun v h'=>v=.sc (.int .i64 (x1X 43 a b))∧h'=h :=
 xmy 43 a b ⟨#[111,114]⟩ ha hb (fun _ h=>x0I 43 (by decide) (by decide) ⟨#[111,114]⟩ rfl h) (fun base h=>⟨20,_,_,xo2 base h,rfl,rfl⟩) h
theorem xo1 (base:Nat) (h:Heap):x0j Xt Ft 20 base x03 [.sc (.string ⟨#[97,110,100]⟩)] h=some (.sc (.string ⟨#[97,110,100]⟩),h):=by kernel_rfl
theorem xm8 {base:Nat} (a b:Int) (ha:I64 a) (hb:I64 b) (h:Heap):WpF S0 base x02 [.sc (.int .i64 44),.sc (.int .i64 a),.sc (.int .i64 b)] h fun v h'=>v=.sc (.int .i64 (x1X 44 a b))∧h'=h :=
 xj4 44 a b ⟨#[97,110,100]⟩ ha hb (fun _ h=>x0I 44 (by decide) (by decide) ⟨#[97,110,100]⟩ rfl h) (fun base h=>⟨20,_,_,xo1 base h,rfl,rfl⟩) h
theorem xo0 (base:Nat) (h:Heap):x0j Xt Ft 20 base x03 [.sc (.string ⟨#[97,100,100,119]⟩)] h=some (.sc (.string ⟨#[97,100,100,119]⟩),h):=by kernel_rfl
theorem xm7 {base:Nat} (a b:Int) (ha:I64 a) (hb:I64 b) (h:Heap):WpF S0 base x02 [.sc (.int .i64 45),.sc (.int .i64 a),.sc (.int .i64 b)] h fun v h'=>v=.sc (.int .i64 (x1X 45 a b))∧h'=h :=
 xgn 45 a b ⟨#[97,100,100,119]⟩ ha hb (fun _ h=>x0I 45 (by decide) (by decide) ⟨#[97,100,100,119]⟩ rfl h) (fun base h=>⟨20,_,_,xo0 base h,rfl,rfl⟩) h
theorem xnZ (base:Nat) (h:Heap):x0j Xt Ft 20 base x03 [.sc (.string ⟨#[115,117,98,119]⟩)] h=some (.sc (.string ⟨#[115,117,98,119]⟩),h):=by kernel_rfl
theorem xm6 {base:Nat} (a b:Int) (ha:I64 a) (hb:I64 b) (h:Heap):WpF S0 base x02 [.sc (.int .i64 46),.sc (.int .i64 a),.sc (.int .i64 b)] h fun v h'=>v=.sc (.int .i64 (x1X 46 a b))∧h'=h :=
 xkj 46 a b ⟨#[115,117,98,119]⟩ ha hb (fun _ h=>x0I 46 (by decide) (by decide) ⟨#[115,117,98,119]⟩ rfl h) (fun base h=>⟨20,_,_,xnZ base h,rfl,rfl⟩) h
theorem xnY (base:Nat) (h:Heap):x0j Xt Ft 20 base x03 [.sc (.string ⟨#[115,108,108,119]⟩)] h=some (.sc (.string ⟨#[115,108,108,119]⟩),h):=by kernel_rfl
theorem xm5 {base:Nat} (a b:Int) (ha:I64 a) (hb:I64 b) (h:Heap):WpF S0 base x02 [.sc (.int .i64 47),.sc (.int .i64 a),.sc (.int .i64 b)] h fun v h'=>v=.sc (.int .i64 (x1X 47 a b))∧h'=h :=
 xgl 47 a b ⟨#[115,108,108,119]⟩ ha hb (fun _ h=>x0I 47 (by decide) (by decide) ⟨#[115,108,108,119]⟩ rfl h) (fun base h=>⟨20,_,_,xnY base h,rfl,rfl⟩) h
theorem xnX (base:Nat) (h:Heap):x0j Xt Ft 20 base x03 [.sc (.string ⟨#[115,114,108,119]⟩)] h=some (.sc (.string ⟨#[115,114,108,119]⟩),h):=by kernel_rfl
theorem xm4 {base:Nat} (a b:Int) (ha:I64 a) (hb:I64 b) (h:Heap):WpF S0 base x02 [.sc (.int .i64 48),.sc (.int .i64 a),.sc (.int .i64 b)] h fun v h'=>v=.sc (.int .i64 (x1X 48 a b))∧h'=h :=
 xgi 48 a b ⟨#[115,114,108,119]⟩ ha hb (fun _ h=>x0I 48 (by decide) (by decide) ⟨#[115,114,108,119]⟩ rfl h) (fun base h=>⟨20,_,_,xnX base h,rfl,rfl⟩) h
theorem xnW (base:Nat) (h:Heap):x0j Xt Ft 20 base x03 [.sc (.string ⟨#[115,114,97,119]⟩)] h=some (.sc (.string ⟨#[115,114,97,119]⟩),h):=by kernel_rfl
theorem xm3 {base:Nat} (a b:Int) (ha:I64 a) (hb:I64 b) (h:Heap):WpF S0 base x02 [.sc (.int .i64 49),.sc (.int .i64 a),.sc (.int .i64 b)] h fun v h'=>v=.sc (.int .i64 (x1X 49 a b))∧h'=h :=
 xgj 49 a b ⟨#[115,114,97,119]⟩ ha hb (fun _ h=>x0I 49 (by decide) (by decide) ⟨#[115,114,97,119]⟩ rfl h) (fun base h=>⟨20,_,_,xnW base h,rfl,rfl⟩) h
theorem xnV (base:Nat) (h:Heap):x0j Xt Ft 20 base x03 [.sc (.string ⟨#[109,117,108]⟩)] h=some (.sc (.string ⟨#[109,117,108]⟩),h):=by kernel_rfl
theorem xm2 {base:Nat} (a b:Int) (ha:I64 a) (hb:I64 b) (h:Heap):WpF S0 base x02 [.sc (.int .i64 50),.sc (.int .i64 a),.sc (.int .i64 b)] h fun v h'=>v=.sc (.int .i64 (x1X 50 a b))∧h'=h :=
 xmz 50 a b ⟨#[109,117,108]⟩ ha hb (fun _ h=>x0I 50 (by decide) (by decide) ⟨#[109,117,108]⟩ rfl h) (fun base h=>⟨20,_,_,xnV base h,rfl,rfl⟩) h
theorem xnU (base:Nat) (h:Heap):x0j Xt Ft 20 base x03 [.sc (.string ⟨#[109,117,108,104]⟩)] h=some (.sc (.string ⟨#[109,117,108,104]⟩),h):=by kernel_rfl
theorem xm1 {base:Nat} (a b:Int) (ha:I64 a) (hb:I64 b) (h:Heap):WpF S0 base x02 [.sc (.int .i64 51),.sc (.int .i64 a),.sc (.int .i64 b)] h fun v h'=>v=.sc (.int .i64 (x1X 51 a b))∧h'=h :=
 xkn 51 a b ⟨#[109,117,108,104]⟩ ha hb (fun _ h=>x0I 51 (by decide) (by decide) ⟨#[109,117,108,104]⟩ rfl h) (fun base h=>⟨20,_,_,xnU base h,rfl,rfl⟩) h
theorem xnT (base:Nat) (h:Heap):x0j Xt Ft 20 base x03 [.sc (.string ⟨#[109,117,108,104,115,117]⟩)] h=some (.sc (.string ⟨#[109,117,108,104,115,117]⟩),h):=by kernel_rfl
theorem xm0 {base:Nat} (a b:Int) (ha:I64 a) (hb:I64 b) (h:Heap):WpF S0 base x02 [.sc (.int .i64 52),.sc (.int .i64 a),.sc (.int .i64 b)] h fun v h'=>v=.sc (.int .i64 (x1X 52 a b))∧h'=h :=
 xgm 52 a b ⟨#[109,117,108,104,115,117]⟩ ha hb (fun _ h=>x0I 52 (by decide) (by decide) ⟨#[109,117,108,104,115,117]⟩ rfl h) (fun base h=>⟨20,_,_,xnT base h,rfl,rfl⟩) h
theorem xnS (base:Nat) (h:Heap):x0j Xt Ft 20 base x03 [.sc (.string ⟨#[109,117,108,104,117]⟩)] h=some (.sc (.string ⟨#[109,117,108,104,117]⟩),h):=by kernel_rfl
theorem xlZ {base:Nat} (a b:Int) (ha:I64 a) (hb:I64 b) (h:Heap):WpF S0 base x02 [.sc (.int .i64 53),.sc (.int .i64 a),.sc (.int .i64 b)] h fun v h'=>v=.sc (.int .i64 (x1X 53 a b))∧h'=h :=
 xi2 53 a b ⟨#[109,117,108,104,117]⟩ ha hb (fun _ h=>x0I 53 (by decide) (by decide) ⟨#[109,117,108,104,117]⟩ rfl h) (fun base h=>⟨20,_,_,xnS base h,rfl,rfl⟩) h
theorem xnR (base:Nat) (h:Heap):x0j Xt Ft 20 base x03 [.sc (.string ⟨#[100,105,118]⟩)] h=some (.sc (.string ⟨#[100,105,118]⟩),h):=by kernel_rfl
theorem xlY {base:Nat} (a b:Int) (ha:I64 a) (hb:I64 b) (h:Heap):WpF S0 base x02 [.sc (.int .i64 54),.sc (.int .i64 a),.sc (.int .i64 b)] h fun v h'=>v=.sc (.int .i64 (x1X 54 a b))∧h'=h :=
 xmA 54 a b ⟨#[100,105,118]⟩ ha hb (fun _ h=>x0I 54 (by decide) (by decide) ⟨#[100,105,118]⟩ rfl h) (fun base h=>⟨20,_,_,xnR base h,rfl,rfl⟩) h
theorem xnQ (base:Nat) (h:Heap):x0j Xt Ft 20 base x03 [.sc (.string ⟨#[100,105,118,117]⟩)] h=some (.sc (.string ⟨#[100,105,118,117]⟩),h):=by kernel_rfl
theorem xlX {base:Nat} (a b:Int) (ha:I64 a) (hb:I64 b) (h:Heap):WpF S0 base x02 [.sc (.int .i64 55),.sc (.int .i64 a),.sc (.int .i64 b)] h fun v h'=>v=.sc (.int .i64 (x1X 55 a b))∧h'=h :=
 xkp 55 a b ⟨#[100,105,118,117]⟩ ha hb (fun _ h=>x0I 55 (by decide) (by decide) ⟨#[100,105,118,117]⟩ rfl h) (fun base h=>⟨20,_,_,xnQ base h,rfl,rfl⟩) h
theorem xnP (base:Nat) (h:Heap):x0j Xt Ft 20 base x03 [.sc (.string ⟨#[114,101,109]⟩)] h=some (.sc (.string ⟨#[114,101,109]⟩),h):=by kernel_rfl
theorem xlW {base:Nat} (a b:Int) (ha:I64 a) (hb:I64 b) (h:Heap):WpF S0 base x02 [.sc (.int .i64 56),.sc (.int .i64 a),.sc (.int .i64 b)] h fun v h'=>v=.sc (.int .i64 (x1X 56 a b))∧h'=h :=
 xmx 56 a b ⟨#[114,101,109]⟩ ha hb (fun _ h=>x0I 56 (by decide) (by decide) ⟨#[114,101,109]⟩ rfl h) (fun base h=>⟨20,_,_,xnP base h,rfl,rfl⟩) h
theorem xnO (base:Nat) (h:Heap):x0j Xt Ft 20 base x03 [.sc (.string ⟨#[114,101,109,117]⟩)] h=some (.sc (.string ⟨#[114,101,109,117]⟩),h):=by kernel_rfl
theorem xlV {base:Nat} (a b:Int) (ha:I64 a) (hb:I64 b) (h:Heap):WpF S0 base x02 [.sc (.int .i64 57),.sc (.int .i64 a),.sc (.int .i64 b)] h fun v h'=>v=.sc (.int .i64 (x1X 57 a b))∧h'=h :=
 xkl 57 a b ⟨#[114,101,109,117]⟩ ha hb (fun _ h=>x0I 57 (by decide) (by decide) ⟨#[114,101,109,117]⟩ rfl h) (fun base h=>⟨20,_,_,xnO base h,rfl,rfl⟩) h
theorem xnN (base:Nat) (h:Heap):x0j Xt Ft 20 base x03 [.sc (.string ⟨#[109,117,108,119]⟩)] h=some (.sc (.string ⟨#[109,117,108,119]⟩),h):=by kernel_rfl
theorem xlU {base:Nat} (a b:Int) (ha:I64 a) (hb:I64 b) (h:Heap):WpF S0 base x02 [.sc (.int .i64 58),.sc (.int .i64 a),.sc (.int .i64 b)] h fun v h'=>v=.sc (.int .i64 (x1X 58 a b))∧h'=h :=
 xkm 58 a b ⟨#[109,117,108,119]⟩ ha hb (fun _ h=>x0I 58 (by decide) (by decide) ⟨#[109,117,108,119]⟩ rfl h) (fun base h=>⟨20,_,_,xnN base h,rfl,rfl⟩) h
theorem xnM (base:Nat) (h:Heap):x0j Xt Ft 20 base x03 [.sc (.string ⟨#[100,105,118,119]⟩)] h=some (.sc (.string ⟨#[100,105,118,119]⟩),h):=by kernel_rfl
theorem xlT {base:Nat} (a b:Int) (ha:I64 a) (hb:I64 b) (h:Heap):WpF S0 base x02 [.sc (.int .i64 59),.sc (.int .i64 a),.sc (.int .i64 b)] h fun v h'=>v=.sc (.int .i64 (x1X 59 a b))∧h'=h :=
 xko 59 a b ⟨#[100,105,118,119]⟩ ha hb (fun _ h=>x0I 59 (by decide) (by decide) ⟨#[100,105,118,119]⟩ rfl h) (fun base h=>⟨20,_,_,xnM base h,rfl,rfl⟩) h
theorem xnL (base:Nat) (h:Heap):x0j Xt Ft 20 base x03 [.sc (.string ⟨#[100,105,118,117,119]⟩)] h=some (.sc (.string ⟨#[100,105,118,117,119]⟩),h):=by kernel_rfl
theorem xlS {base:Nat} (a b:Int) (ha:I64 a) (hb:I64 b) (h:Heap):WpF S0 base x02 [.sc (.int .i64 60),.sc (.int .i64 a),.sc (.int .i64 b)] h fun v h'=>v=.sc (.int .i64 (x1X 60 a b))∧h'=h :=
 xi3 60 a b ⟨#[100,105,118,117,119]⟩ ha hb (fun _ h=>x0I 60 (by decide) (by decide) ⟨#[100,105,118,117,119]⟩ rfl h) (fun base h=>⟨20,_,_,xnL base h,rfl,rfl⟩) h
theorem xnK (base:Nat) (h:Heap):x0j Xt Ft 20 base x03 [.sc (.string ⟨#[114,101,109,119]⟩)] h=some (.sc (.string ⟨#[114,101,109,119]⟩),h):=by kernel_rfl
theorem xlR {base:Nat} (a b:Int) (ha:I64 a) (hb:I64 b) (h:Heap):WpF S0 base x02 [.sc (.int .i64 61),.sc (.int .i64 a),.sc (.int .i64 b)] h fun v h'=>v=.sc (.int .i64 (x1X 61 a b))∧h'=h :=
 xkk 61 a b ⟨#[114,101,109,119]⟩ ha hb (fun _ h=>x0I 61 (by decide) (by decide) ⟨#[114,101,109,119]⟩ rfl h) (fun base h=>⟨20,_,_,xnK base h,rfl,rfl⟩) h
theorem xnJ (base:Nat) (h:Heap):x0j Xt Ft 20 base x03 [.sc (.string ⟨#[114,101,109,117,119]⟩)] h=some (.sc (.string ⟨#[114,101,109,117,119]⟩),h):=by kernel_rfl
theorem xlQ {base:Nat} (a b:Int) (ha:I64 a) (hb:I64 b) (h:Heap):WpF S0 base x02 [.sc (.int .i64 62),.sc (.int .i64 a),.sc (.int .i64 b)] h fun v h'=>v=.sc (.int .i64 (x1X 62 a b))∧h'=h :=
 xi1 62 a b ⟨#[114,101,109,117,119]⟩ ha hb (fun _ h=>x0I 62 (by decide) (by decide) ⟨#[114,101,109,117,119]⟩ rfl h) (fun base h=>⟨20,_,_,xnJ base h,rfl,rfl⟩) h
theorem xgh {base:Nat} (op a b:Int) (h1:22≤op) (h2:op≤62) (ha:I64 a) (hb:I64 b) (h:Heap):WpF S0 base x02 [.sc (.int .i64 op),.sc (.int .i64 a),.sc (.int .i64 b)] h fun v h'=>v=.sc (.int .i64 (x1X op a b))∧h'=h:=by
 have hop:op=22∨op=23∨op=24∨op=25∨op=26∨op=27∨op=28∨op=29∨op=30∨op=31∨op=32∨op=33∨op=34∨op=35∨op=36∨op=37∨op=38∨op=39∨op=40∨op=41∨op=42∨op=43∨op=44∨op=45∨op=46∨op=47∨op=48∨op=49∨op=50∨op=51∨op=52∨op=53∨op=54∨op=55∨op=56∨op=57∨op=58∨op=59∨op=60∨op=61∨op=62:=by omega
 rcases hop with rfl | rfl | rfl | rfl | rfl | rfl | rfl | rfl | rfl | rfl | rfl | rfl | rfl | rfl | rfl | rfl | rfl | rfl | rfl | rfl | rfl | rfl | rfl | rfl | rfl | rfl | rfl | rfl | rfl | rfl | rfl | rfl | rfl | rfl | rfl | rfl | rfl | rfl | rfl | rfl | rfl
 ·exact xmu a b ha hb h
 ·exact xmt a b ha hb h
 ·exact xms a b ha hb h
 ·exact xmr a b ha hb h
 ·exact xmq a b ha hb h
 ·exact xmp a b ha hb h
 ·exact xmo a b ha hb h
 ·exact xmn a b ha hb h
 ·exact xmm a b ha hb h
 ·exact xml a b ha hb h
 ·exact xmk a b ha hb h
 ·exact xmj a b ha hb h
 ·exact xmi a b ha hb h
 ·exact xmh a b ha hb h
 ·exact xmg a b ha hb h
 ·exact xmf a b ha hb h
 ·exact xme a b ha hb h
 ·exact xmd a b ha hb h
 ·exact xmc a b ha hb h
 ·exact xmb a b ha hb h
 ·exact xma a b ha hb h
 ·exact xm9 a b ha hb h
 ·exact xm8 a b ha hb h
 ·exact xm7 a b ha hb h
 ·exact xm6 a b ha hb h
 ·exact xm5 a b ha hb h
 ·exact xm4 a b ha hb h
 ·exact xm3 a b ha hb h
 ·exact xm2 a b ha hb h
 ·exact xm1 a b ha hb h
 ·exact xm0 a b ha hb h
 ·exact xlZ a b ha hb h
 ·exact xlY a b ha hb h
 ·exact xlX a b ha hb h
 ·exact xlW a b ha hb h
 ·exact xlV a b ha hb h
 ·exact xlU a b ha hb h
 ·exact xlT a b ha hb h
 ·exact xlS a b ha hb h
 ·exact xlR a b ha hb h
 ·exact xlQ a b ha hb h
end
section
structure Ent where
 pc:Int
 ins:Ins
 next:Int
 addr:Int
 known:Bool
 bad:Int
 val:Int
 rdy:Bool
 don:Bool
 fail:Bool
 srcH:Int
 srcA:Int
def rowE (e:Ent):List V:=[sci e.pc,sci e.ins.op,sci e.ins.rd,sci e.ins.a,sci e.ins.b,sci e.ins.imm,scb e.ins.aq,scb e.ins.rl,sci e.next,sci e.addr,scb e.known,sci e.bad,sci e.val,scb e.rdy,scb e.don,scb e.fail,sci e.srcH,sci e.srcA]
def LV (h:Heap) (lv:V) (l:List Ent):Prop:=(l=[]∧zk lv=some 0)∨∃ r e t rows,lv=.hsl r e 0 l.length∧h[r]?=some (.row t 18 e rows)∧l.length≤rows.length∧∀ i (hi:i<l.length),rows[i]?=some (rowE l[i])
theorem LV.len {h:Heap} {lv:V} {l:List Ent} (hl:LV h lv l):zk lv=some l.length:=by
 rcases hl with ⟨rfl,h⟩ | ⟨r,e,t,rows,rfl,_⟩
 ·simpa using h
 ·rfl
theorem LV.get {h:Heap} {lv:V} {l:List Ent} (hl:LV h lv l) {i:Nat} (hi:i<l.length):∃ r e t rows,lv=.hsl r e 0 l.length∧h[r]?=some (.row t 18 e rows)∧rows[i]?=some (rowE l[i])∧zi h 18 i lv=some (.rptr r e i 0)∧∀ (off:Nat) (n:Option Nat),off+n.getD 1≤18→zl h n (.rptr r e i off)=zb n (rowE l[i]) off:=by
 rcases hl with ⟨rfl,h⟩ | ⟨r,e,t,rows,rfl,hg,hle,hr⟩
 ·simp at hi
 ·exact ⟨r,e,t,rows,rfl,hg,hr i hi,x5I hg hi hle,fun off n ho=>x5R hg (hr i hi) (by simpa [rowE] using ho)⟩
def x9e (h:Heap) (b:Nat) (regs:Nat→Int) (l:List Ent):Prop:=∃ t cs lv,h[b]?=some (.box t cs)∧(∀ k,k<32→cs[k]?=some (sci (regs k)))∧cs[32]?=some lv∧LV h lv l
theorem x9e.ld {h:Heap} {b:Nat} {regs:Nat→Int} {l:List Ent} (hw:x9e h b regs l):∃ lv,zl h none (.ptr b 32)=some lv∧LV h lv l∧∀ k,k<32→zl h none (.ptr b k)=some (sci (regs k)):=by
 obtain ⟨t,cs,lv,hb,hr,hl,hL⟩:=hw
 exact ⟨lv,by rw [x2Y hb];exact hl,hL,fun k hk=>by rw [x2Y hb];exact hr k hk⟩
def Ent.wr (e:Ent) (r:Int):Bool:=e.ins.may&&decide (e.ins.rd≠0)&&decide (e.ins.rd=r)
def rgS (regs:Nat→Int) (r:Int):List Ent→Int×Bool
 | []=>(regs r.toNat,true)
 | e::p=>if e.wr r then (if e.rdy then (e.val,true) else (0,false)) else rgS regs r p
def rgW (regs:Nat→Int) (l:List Ent) (i:Nat) (r:Int):Int×Bool:=if r≤0∨32≤r then (0,true) else rgS regs r (l.take i).reverse
theorem x6r (regs:Nat→Int) (r:Int) (e:Ent) (p:List Ent):rgS regs r (e::p)=if e.wr r then (if e.rdy then (e.val,true) else (0,false)) else rgS regs r p:=rfl
theorem x8b {l:List Ent} {m:Nat} (h:m<l.length):(l.take (m+1)).reverse=l[m]::(l.take m).reverse:=by
 rw [List.take_succ_eq_append_getElem h,List.reverse_append]
 rfl
set_option maxHeartbeats 1000000 in
theorem xl1 {base:Nat} {h:Heap} {b:Nat} {regs:Nat→Int} {l:List Ent} (hW:x9e h b regs l) (hok:∀ e∈l,I64 e.ins.imm) (hlen:l.length<2147483648) (i:Nat) (hi:i<2147483648) (r:Int):WpF S0 base x4O [.ptr b 0,V.int i,.sc (.int .i64 r)] h fun v h'=>v=.tup [.sc (.int .i64 (rgW regs l i r).1),.bool (rgW regs l i r).2]∧h'=h:=by
 obtain ⟨lv,hl32,hL,hregs⟩:=hW.ld
 first | refine zu (A:=x1v) rfl rfl rfl rfl ?_ | refine zB (A:=x1v) rfl rfl rfl rfl ?_
 simp only [x1v,oD,cD,τ,φ,ι]
 by_cases hr:r≤0∨32≤r
 ·have e:rgW regs l i r=(0,true):=if_pos hr
  rw [e]
  by_cases h1:r≤0
  ·simp only [SQ,SQB,zm,AOp.opds,step,Opd.get,zk,bin,zzc,IntKind.signed,zi,zj,zl,zb,unary,ze,zd,za,zo,zr,zh,zf,zg,zp,Cp.isFull,isNil,zq,simprocAttr,SQX,V.cells,h1,List.take_length,Nat.le_refl]
  ·have h2:32≤r:=by omega
   simp only [SQ,SQB,zm,AOp.opds,step,Opd.get,zk,bin,zzc,IntKind.signed,zi,zj,zl,zb,unary,ze,zd,za,zo,zr,zh,zf,zg,zp,Cp.isFull,isNil,zq,simprocAttr,SQX,V.cells,h1,h2,List.take_length,Nat.le_refl]
 ·have e:rgW regs l i r=rgS regs r (l.take i).reverse:=if_neg hr
  rw [e]
  have h1:¬ r≤0:=by omega
  have h2:¬ 32≤r:=by omega
  have mn:∀ k:Nat,(if l.length<i then (l.length:Int) else (i:Int))=((min i l.length:Nat):Int):=fun _=>by split<;>omega
  have w0:IntKind.i64.wrap (((min i l.length:Nat):Int)-1)=((min i l.length:Nat):Int)-1:=x08 (by omega) (by omega)
  simp only [SQ,SQB,zm,AOp.opds,step,Opd.get,bin,zzc,IntKind.signed,zi,zj,zb,unary,ze,zd,za,zo,zr,zh,zf,zg,zp,Cp.isFull,isNil,zq,simprocAttr,SQX,V.cells,h1,h2,hl32,hL.len,x9o,mn 0,w0]
  refine x1y (fun k en h'=>∃ m:Nat,k=m∧m≤i∧m≤l.length∧en 8=.sc (.int .i64 ((m:Int)-1))∧en 0=.ptr b 0∧en 2=.sc (.int .i64 r)∧rgS regs r (l.take m).reverse=rgS regs r (l.take i).reverse∧h'=h) (min i l.length) ⟨min i l.length,rfl,by omega,by omega,rfl,rfl,rfl,by
   rw [← List.take_eq_take_min],rfl⟩ ?_
  rintro m en h' ⟨_,rfl,hm1,hm2,e8,e0,e2,hS,rfl⟩
  cases m with
  | zero =>
   have c0:¬ (0:Int)≤((0:Nat):Int)-1:=by omega
   have hfin:(regs r.toNat,true)=rgS regs r (l.take i).reverse:=hS
   have ix:(0:Int)≤r:=by omega
   have c32:r.toNat<32:=by omega
   have hld:=hregs r.toNat c32
   rw [← hfin]
   simp only [SQ,SQB,zm,AOp.opds,step,Opd.get,bin,zzc,IntKind.signed,zi,zj,zb,unary,ze,zd,za,zo,zr,zh,zf,zg,zp,Cp.isFull,isNil,zq,simprocAttr,SQX,V.cells,e8,e0,e2,c0,ix,c32,Nat.mul_one,hld,List.take_length,Nat.le_refl]
  | succ m =>
   have hml:m<l.length:=by omega
   obtain ⟨rr,ee,t,rows,rfl,hg,hrow,hix,hld⟩:=hL.get hml
   have hWr:=x6V (base:=h'.length) l[m].ins.op l[m].ins.rd l[m].ins.a l[m].ins.b l[m].ins.imm l[m].ins.aq l[m].ins.rl h' (hok _ (List.getElem_mem hml)).1 (hok _ (List.getElem_mem hml)).2
   have c0:(0:Int)≤((m+1:Nat):Int)-1:=by omega
   have cm:(((m+1:Nat):Int)-1).toNat=m:=by omega
   have l7:zl h' (some 7) (.rptr rr ee m 1)=some (ins l[m].ins.op l[m].ins.rd l[m].ins.a l[m].ins.b l[m].ins.imm l[m].ins.aq l[m].ins.rl):=by
    rw [hld 1 (some 7) (by simp)];rfl
   have l13:zl h' none (.rptr rr ee m 13)=some (scb l[m].rdy):=by
    rw [hld 13 none (by simp)];rfl
   have l12:zl h' none (.rptr rr ee m 12)=some (sci l[m].val):=by
    rw [hld 12 none (by simp)];rfl
   have ws:IntKind.i64.wrap (((m+1:Nat):Int)-1-1)=(m:Int)-1:=by rw [x08 (by omega) (by omega)];omega
   rw [x8b hml,x6r] at hS
   have cont:l[m].wr r=false→rgS regs r (l.take m).reverse=rgS regs r (l.take i).reverse:=fun hf=>by
    rwa [if_neg (by rw [hf];simp)] at hS
   unfold Ent.wr at cont hS
   generalize hmay:l[m].ins.may=my at *
   cases my with
   | false =>
    rw [show mayI l[m].ins.op l[m].ins.rd l[m].ins.a l[m].ins.b l[m].ins.imm l[m].ins.aq l[m].ins.rl=false from hmay] at hWr
    simp only [Bool.false_eq_true,if_false,Bool.false_and] at hWr
    have cc:=cont (by simp)
    simp only [SQ,SQB,zm,AOp.opds,step,Opd.get,bin,zzc,IntKind.signed,zj,zb,unary,ze,zd,za,zo,zr,zh,zf,zg,zp,Cp.isFull,isNil,zq,simprocAttr,SQX,V.cells,e8,e0,c0,cm,hl32,hix,l7,zn hWr,Bool.false_and,ws]
    exact ⟨m,by omega,m,rfl,by omega,by omega,by simp [e0,e2,cc,Env.put,Env.upd]⟩
   | true =>
    rw [show mayI l[m].ins.op l[m].ins.rd l[m].ins.a l[m].ins.b l[m].ins.imm l[m].ins.aq l[m].ins.rl=true from hmay] at hWr
    simp only [if_true,Bool.true_and] at hWr
    by_cases hz:l[m].ins.rd=0
    ·have cc:=cont (by simp [hz])
     rw [show decide (l[m].ins.rd≠0)=false by simp [hz]] at hWr
     simp only [SQ,SQB,zm,AOp.opds,step,Opd.get,bin,zzc,IntKind.signed,zj,zb,unary,ze,zd,za,zo,zr,zh,zf,zg,zp,Cp.isFull,isNil,zq,simprocAttr,SQX,V.cells,e8,e0,c0,cm,hl32,hix,l7,zn hWr,Bool.false_and,ws]
     exact ⟨m,by omega,m,rfl,by omega,by omega,by simp [e0,e2,cc,Env.put,Env.upd]⟩
    ·rw [show decide (l[m].ins.rd≠0)=true by simp [hz]] at hWr
     by_cases hq:l[m].ins.rd=r
     ·rw [if_pos (by simp [hz,hq];omega)] at hS
      cases hy:l[m].rdy with
      | true =>
       rw [hy] at hS l13
       simp only [SQ,SQB,zm,AOp.opds,step,Opd.get,bin,zzc,IntKind.signed,zj,zb,unary,ze,zd,za,zo,zr,zh,zf,zg,zp,Cp.isFull,isNil,zq,simprocAttr,SQX,V.cells,e8,e0,e2,c0,cm,hl32,hix,l7,l12,l13,zn hWr,hz,eq_true hq,Bool.false_and,← hS,List.take_length,Nat.le_refl]
      | false =>
       rw [hy] at hS l13
       simp only [SQ,SQB,zm,AOp.opds,step,Opd.get,bin,zzc,IntKind.signed,zj,zb,unary,ze,zd,za,zo,zr,zh,zf,zg,zp,Cp.isFull,isNil,zq,simprocAttr,SQX,V.cells,e8,e0,e2,c0,cm,hl32,hix,l7,l12,l13,zn hWr,hz,eq_true hq,Bool.false_and,← hS,List.take_length,Nat.le_refl]
     ·have cc:=cont (by simp [hq])
      simp only [SQ,SQB,zm,AOp.opds,step,Opd.get,bin,zzc,IntKind.signed,zj,zb,unary,ze,zd,za,zo,zr,zh,zf,zg,zp,Cp.isFull,isNil,zq,simprocAttr,SQX,V.cells,e8,e0,e2,c0,cm,hl32,hix,l7,zn hWr,hz,hq,Bool.false_and,ws]
      exact ⟨m,by omega,m,rfl,by omega,by omega,by simp [e0,e2,cc,Env.put,Env.upd]⟩
end
section
theorem xmV {base:Nat} {h:Heap} {b:Nat} {regs:Nat→Int} {l:List Ent} (hW:x9e h b regs l) {i:Nat} (hi:i<l.length) (hlen:l.length<2147483648) {lv:V} (hlv:zl h none (.ptr b 32)=some lv) {p:V} (hp:zi h 18 i lv=some p):WpF S0 base x3W [.ptr b 0,V.int i] h fun v h'=>v=p∧h'=h:=by
 obtain ⟨lv',hl32,hL,_⟩:=hW.ld
 rw [hlv] at hl32
 injection hl32 with hl32
 subst hl32
 obtain ⟨rr,ee,t,rows,rfl,hg,hrow,hix,hld⟩:=hL.get hi
 rw [hp] at hix
 injection hix with hix
 subst hix
 have c1:¬ (i:Int)<0:=by omega
 have c2:¬ (l.length:Int)≤(i:Int):=by omega
 have c3:¬ l.length≤i:=by omega
 first | refine zu (A:=x0L) rfl rfl rfl rfl ?_ | refine zB (A:=x0L) rfl rfl rfl rfl ?_
 simp only [x0L,oD,cD,τ,φ,ι]
 simp only [SQ,SQB,zm,AOp.opds,step,Opd.get,bin,zzc,IntKind.signed,zj,zb,unary,ze,zd,za,zo,zr,zh,zf,zg,zp,Cp.isFull,isNil,zq,simprocAttr,SQX,V.cells,c1,c2,c3,hlv,hL.len,hp,List.take_length,Nat.le_refl]
 have hlt:rr<h.length:=(List.getElem?_eq_some_iff.1 hg).1
 exact ⟨1,_,by simp [x1Z,hlt],rfl⟩
theorem xmU {base:Nat} {h:Heap} {b:Nat} {regs:Nat→Int} {l:List Ent} (hW:x9e h b regs l) {i:Int} (hi:i<0∨(l.length:Int)≤i):WpF S0 base x3W [.ptr b 0,.sc (.int .i64 i)] h fun v h'=>v=.sc (.pointer none)∧h'=h:=by
 obtain ⟨lv,hl32,hL,_⟩:=hW.ld
 first | refine zu (A:=x0L) rfl rfl rfl rfl ?_ | refine zB (A:=x0L) rfl rfl rfl rfl ?_
 simp only [x0L,oD,cD,τ,φ,ι]
 by_cases c1:i<0
 ·simp only [SQ,SQB,zm,AOp.opds,step,Opd.get,zk,bin,zzc,IntKind.signed,zi,zj,zl,zb,unary,ze,zd,za,zo,zr,zh,zf,zg,zp,Cp.isFull,isNil,zq,simprocAttr,SQX,V.cells,c1,List.take_length,Nat.le_refl]
 ·have c2:(l.length:Int)≤i:=by omega
  simp only [SQ,SQB,zm,AOp.opds,step,Opd.get,bin,zzc,IntKind.signed,zi,zj,zb,unary,ze,zd,za,zo,zr,zh,zf,zg,zp,Cp.isFull,isNil,zq,simprocAttr,SQX,V.cells,c1,c2,hl32,hL.len,List.take_length,Nat.le_refl]
def knW (regs:Nat→Int) (l:List Ent) (i:Nat) (x:Ins):Bool:=((rgW regs l i x.a).2||!(x.may&&fA (x0a x.op)))&&((rgW regs l i x.b).2||!(x.may&&fB (x0a x.op)))
set_option maxHeartbeats 1000000 in
theorem xiN {base:Nat} {h:Heap} {b:Nat} {regs:Nat→Int} {l:List Ent} (hW:x9e h b regs l) (hok:∀ e∈l,I64 e.ins.imm) (hlen:l.length<2147483648) {i:Nat} (hi:i<l.length):WpF S0 base x5o [.ptr b 0,V.int i] h fun v h'=>v=.tup [sci (rgW regs l i l[i].ins.a).1,sci (rgW regs l i l[i].ins.b).1,scb (knW regs l i l[i].ins)]∧h'=h:=by
 obtain ⟨lv,hl32,hL,_⟩:=hW.ld
 obtain ⟨rr,ee,t,rows,rfl,hg,hrow,hix,hld⟩:=hL.get hi
 have l7:zl h (some 7) (.rptr rr ee i 1)=some (ins l[i].ins.op l[i].ins.rd l[i].ins.a l[i].ins.b l[i].ins.imm l[i].ins.aq l[i].ins.rl):=by
  rw [hld 1 (some 7) (by simp)];rfl
 have hR:=fun base r=>xl1 (base:=base) hW hok hlen i (by omega) r
 have hQ:=fun base=>x9t (base:=base) l[i].ins.op l[i].ins.rd l[i].ins.a l[i].ins.b l[i].ins.imm l[i].ins.aq l[i].ins.rl h (hok _ (List.getElem_mem hi)).1 (hok _ (List.getElem_mem hi)).2
 have hm:mayI l[i].ins.op l[i].ins.rd l[i].ins.a l[i].ins.b l[i].ins.imm l[i].ins.aq l[i].ins.rl=l[i].ins.may:=rfl
 rw [hm] at hQ
 unfold knW
 have rA:=hR
 generalize hx:rgW regs l i l[i].ins.a=A at *
 generalize hy:rgW regs l i l[i].ins.b=B at *
 have hRa:=fun base=>hR base l[i].ins.a
 have hRb:=fun base=>hR base l[i].ins.b
 rw [hx] at hRa
 rw [hy] at hRb
 generalize (l[i].ins.may&&fA (x0a l[i].ins.op))=u at *
 generalize (l[i].ins.may&&fB (x0a l[i].ins.op))=v at *
 obtain ⟨A1,A2⟩:=A
 obtain ⟨B1,B2⟩:=B
 first | refine zu (A:=x0K) rfl rfl rfl rfl ?_ | refine zB (A:=x0K) rfl rfl rfl rfl ?_
 simp only [x0K,oD,cD,τ,φ,ι]
 cases A2<;>cases B2<;>cases u<;>cases v<;>simp only [SQ,SQB,zm,AOp.opds,step,Opd.get,bin,zzc,IntKind.signed,zj,zb,unary,ze,zd,za,zo,zr,zh,zf,zg,zp,Cp.isFull,isNil,zq,simprocAttr,SQX,V.cells,hl32,hix,l7,ldE,zn (hRa _),zn (hRb _),zn (hQ _),List.take_length,List.take_succ_cons,List.take_zero,Nat.le_refl]
 all_goals rfl
theorem xaE {base:Nat} (op:Int) (h:Heap):WpF S0 base x80 [.sc (.int .i64 op)] h fun v h'=>v=.bool (decide (22≤op∧op≤62))∧h'=h:=by
 first | refine zu (A:=x1N) rfl rfl rfl rfl ?_ | refine zB (A:=x1N) rfl rfl rfl rfl ?_
 simp only [x1N,oD,cD,τ,φ,ι]
 by_cases h1:22≤op<;>by_cases h2:op≤62<;>simp only [SQ,SQB,zm,AOp.opds,step,Opd.get,zk,bin,zzc,IntKind.signed,zi,zj,zl,zb,unary,ze,zd,za,zo,zr,zh,zf,zg,zp,Cp.isFull,isNil,zq,simprocAttr,SQX,V.cells,h1,h2]
def canW (regs:Nat→Int) (l:List Ent) (i:Nat):Bool:=if hi:i<l.length then !l[i].don&&knW regs l i l[i].ins else false
def Ari (e:Ent):Prop:=e.bad=0∧22≤e.ins.op∧e.ins.op≤62∧I64 e.ins.imm
set_option maxHeartbeats 1000000 in
theorem xmO {base:Nat} {h:Heap} {b:Nat} {regs:Nat→Int} {l:List Ent} (hW:x9e h b regs l) (hok:∀ e∈l,Ari e) (hlen:l.length<2147483648) {i:Nat} (hi:i<l.length):WpF S0 base x4P [.ptr b 0,V.int i] h fun v h'=>v=.bool (canW regs l i)∧h'=h:=by
 obtain ⟨lv,hl32,hL,_⟩:=hW.ld
 obtain ⟨rr,ee,t,rows,rfl,hg,hrow,hix,hld⟩:=hL.get hi
 obtain ⟨b0,o1,o2,_⟩:=hok _ (List.getElem_mem hi)
 have hA:=fun base=>xmV (base:=base) hW hi hlen hl32 hix
 have hO:=fun base=>xiN (base:=base) hW (fun e he=>(hok e he).2.2.2) hlen hi
 have hAc:=fun base h=>xdm (base:=base) l[i].ins.op h
 have hRe:=fun base h=>xaE (base:=base) l[i].ins.op h
 have a0:accI l[i].ins.op=false:=by unfold accI;simp;omega
 have r0:decide (22≤l[i].ins.op∧l[i].ins.op≤62)=true:=by simp;omega
 rw [a0] at hAc
 rw [r0] at hRe
 have l11:zl h none (.rptr rr ee i 11)=some (sci 0):=by
  rw [hld 11 none (by simp),← b0];rfl
 have l14:zl h none (.rptr rr ee i 14)=some (scb l[i].don):=by
  rw [hld 14 none (by simp)];rfl
 have l1:zl h none (.rptr rr ee i 1)=some (sci l[i].ins.op):=by
  rw [hld 1 none (by simp)];rfl
 unfold canW
 rw [dif_pos hi]
 cases hdn:l[i].don with
 | true =>
  rw [hdn] at l14
  first | refine zu (A:=x0r) rfl rfl rfl rfl ?_ | refine zB (A:=x0r) rfl rfl rfl rfl ?_
  simp only [x0r,oD,cD,τ,φ,ι]
  simp only [SQ,SQB,zm,AOp.opds,step,Opd.get,bin,zzc,IntKind.signed,zj,zb,unary,ze,zd,za,zo,zr,zh,zf,zg,zp,Cp.isFull,isNil,zq,simprocAttr,SQX,V.cells,zn (hA _),l11,l14,Bool.not_true,Bool.false_and,List.take_length,Nat.le_refl]
 | false =>
  rw [hdn] at l14
  generalize knW regs l i l[i].ins=kn at *
  first | refine zu (A:=x0r) rfl rfl rfl rfl ?_ | refine zB (A:=x0r) rfl rfl rfl rfl ?_
  simp only [x0r,oD,cD,τ,φ,ι]
  simp only [SQ,SQB,zm,AOp.opds,step,Opd.get,bin,zzc,IntKind.signed,zj,zb,unary,ze,zd,za,zo,zr,zh,zf,zg,zp,Cp.isFull,isNil,zq,simprocAttr,SQX,V.cells,zn (hA _),zn (hO _),zn (hAc _ _),zn (hRe _ _),l11,l14,l1,Bool.not_false,Bool.true_and,List.take_length,Nat.le_refl]
theorem xkA {base:Nat} {h:Heap} {b:Nat} {regs:Nat→Int} {l:List Ent} (hW:x9e h b regs l) {i:Int} (hi:i<0∨(l.length:Int)≤i):WpF S0 base x4P [.ptr b 0,.sc (.int .i64 i)] h fun v h'=>v=.bool false∧h'=h:=by
 have hA:=fun base=>xmU (base:=base) hW hi
 first | refine zu (A:=x0r) rfl rfl rfl rfl ?_ | refine zB (A:=x0r) rfl rfl rfl rfl ?_
 simp only [x0r,oD,cD,τ,φ,ι]
 simp only [SQ,SQB,zm,AOp.opds,step,Opd.get,zk,bin,zzc,IntKind.signed,zi,zj,zl,zb,unary,ze,zd,za,zo,zr,zh,zf,zg,zp,Cp.isFull,isNil,zq,simprocAttr,SQX,V.cells,zn (hA _),List.take_length,Nat.le_refl]
def valW (regs:Nat→Int) (l:List Ent) (i:Nat) (x:Ins):Int:=x1X x.op (rgW regs l i x.a).1 (if x0a x.op=6 then (rgW regs l i x.b).1 else x.imm)
theorem xhl {base:Nat} (op rd a b imm:Int) (aq rl:Bool) (x y:Int) (h1:22≤op) (h2:op≤62) (h:Heap):WpF S0 base x8D [ins op rd a b imm aq rl,sci x,sci y] h fun v h'=>v=sci (x1X op x (if x0a op=6 then y else imm))∧h'=h:=by
 have hF:=fun base h=>x4R (base:=base) op h
 have hE:=fun base y h=>xmv (base:=base) op x y h1 h2 h
 first | refine zu (A:=x22) rfl rfl rfl rfl ?_ | refine zB (A:=x22) rfl rfl rfl rfl ?_
 simp only [x22,oD,cD,τ,φ,ι]
 by_cases h6:x0a op=6
 ·rw [h6] at hF
  simp only [SQ,SQB,zm,AOp.opds,step,Opd.get,zk,bin,zzc,IntKind.signed,zi,zj,zl,zb,unary,ze,zd,za,zo,zr,zh,zf,zg,zp,Cp.isFull,isNil,zq,simprocAttr,SQX,V.cells,h6,zn (hF _ _),zn (hE _ _ _),ldE]
 ·simp only [SQ,SQB,zm,AOp.opds,step,Opd.get,zk,bin,zzc,IntKind.signed,zi,zj,zl,zb,unary,ze,zd,za,zo,zr,zh,zf,zg,zp,Cp.isFull,isNil,zq,simprocAttr,SQX,V.cells,h6,zn (hF _ _),zn (hE _ _ _),ldE]
def Ent.done (e:Ent) (n:Int):Ent:={ e with val:=n,rdy:=true,don:=true }
theorem xha {base:Nat} {h:Heap} {rr ee i:Nat} {t:TypeId} {rows:List (List V)} {e:Ent} (n:Int) (hg:h[rr]?=some (.row t 18 ee rows)) (hi:rows[i]?=some (rowE e)):WpF S0 base x4w [.rptr rr ee i 0,sci n] h fun v h'=>v=.tup []∧h'=h.set rr (.row t 18 ee (rows.set i (rowE (e.done n)))):=by
 have hil:i<rows.length:=(List.getElem?_eq_some_iff.1 hi).1
 have hrl:rr<h.length:=(List.getElem?_eq_some_iff.1 hg).1
 have s1:x0y base h 1 (.rptr rr ee i 12) (sci n)=some (h.set rr (.row t 18 ee (rows.set i ((rowE e).set 12 (sci n))))):=x9j hg hi (by simp [rowE])
 have s2:x0y base (h.set rr (.row t 18 ee (rows.set i ((rowE e).set 12 (sci n))))) 1 (.rptr rr ee i 13) (scb true)=some (h.set rr (.row t 18 ee (rows.set i (((rowE e).set 12 (sci n)).set 13 (scb true))))):=by
  rw [x9j (rs:=rows.set i ((rowE e).set 12 (sci n))) (cs:=(rowE e).set 12 (sci n)) (by rw [List.getElem?_set_self hrl]) (by rw [List.getElem?_set_self hil]) (by simp [rowE]),List.set_set,List.set_set]
 have s3:x0y base (h.set rr (.row t 18 ee (rows.set i (((rowE e).set 12 (sci n)).set 13 (scb true))))) 1 (.rptr rr ee i 14) (scb true)=some (h.set rr (.row t 18 ee (rows.set i (rowE (e.done n))))):=by
  rw [x9j (rs:=rows.set i (((rowE e).set 12 (sci n)).set 13 (scb true))) (cs:=((rowE e).set 12 (sci n)).set 13 (scb true)) (by rw [List.getElem?_set_self hrl]) (by rw [List.getElem?_set_self hil]) (by simp [rowE]),List.set_set,List.set_set]
  rfl
 first | refine zu (A:=x0C) rfl rfl rfl rfl ?_ | refine zB (A:=x0C) rfl rfl rfl rfl ?_
 simp only [x0C,oD,cD,τ,φ,ι]
 simp only [SQ,SQB,zm,AOp.opds,step,Opd.get,zk,bin,zzc,IntKind.signed,zi,zj,zb,unary,ze,zd,za,zo,zr,zh,zf,zg,zp,Cp.isFull,isNil,zq,simprocAttr,SQX,V.cells,s1,s2,s3]
end
section
def LVo (tE:TypeId) (h:Heap) (lv:V) (own:Option Nat) (l:List Ent):Prop:=(l=[]∧zk lv=some 0∧own=none)∨∃ r e rows,own=some r∧lv=.hsl r e 0 l.length∧h[r]?=some (.row tE 18 e rows)∧l.length≤rows.length∧∀ i (hi:i<l.length),rows[i]?=some (rowE l[i])
def WinO (tE:TypeId) (h:Heap) (b:Nat) (own:Option Nat) (regs:Nat→Int) (l:List Ent):Prop:=∃ t cs lv,h[b]?=some (.box t cs)∧(∀ k,k<32→cs[k]?=some (sci (regs k)))∧cs[32]?=some lv∧LVo tE h lv own l
theorem LVo.lv {tE:TypeId} {h:Heap} {lv:V} {own:Option Nat} {l:List Ent} (hl:LVo tE h lv own l):LV h lv l:=by
 rcases hl with ⟨h1,h2,_⟩ | ⟨r,e,rows,_,h1,h2,h3,h4⟩
 ·exact .inl ⟨h1,h2⟩
 ·exact .inr ⟨r,e,tE,rows,h1,h2,h3,h4⟩
theorem WinO.at {tE:TypeId} {h:Heap} {b:Nat} {own:Option Nat} {regs:Nat→Int} {l:List Ent} (hw:WinO tE h b own regs l):x9e h b regs l:=by
 obtain ⟨t,cs,lv,h1,h2,h3,h4⟩:=hw
 exact ⟨t,cs,lv,h1,h2,h3,h4.lv⟩
theorem WinO.ne {tE:TypeId} {h:Heap} {b:Nat} {own:Option Nat} {regs:Nat→Int} {l:List Ent} (hw:WinO tE h b own regs l):own≠some b:=by
 obtain ⟨t,cs,lv,h1,h2,h3,h4⟩:=hw
 rcases h4 with ⟨_,_,e⟩ | ⟨r,e,rows,rfl,_,hg,_⟩
 ·rw [e];simp
 ·intro e
  injection e with e
  subst e
  rw [h1] at hg
  cases hg
def Keep (h h':Heap) (own:Option Nat):Prop:=h.length≤h'.length∧∀ c,c<h.length→some c≠own→h'[c]?=h[c]?
theorem Keep.trans {a b c:Heap} {own:Option Nat} (h:Keep a b own) (k:Keep b c own):Keep a c own:=⟨Nat.le_trans h.1 k.1,fun x hx hn=>by rw [k.2 x (by have:=h.1;omega) hn,h.2 x hx hn]⟩
theorem Keep.app (h:Heap) (ext:Heap) (own:Option Nat):Keep h (h++ext) own:=⟨by simp,fun c hc _=>List.getElem?_append_left hc⟩
theorem Keep.set (h:Heap) (r:Nat) (o:Obj):Keep h (h.set r o) (some r):=⟨by simp,fun c hc hn=>by rw [List.getElem?_set_ne (fun e=>hn (by rw [e]))]⟩
theorem get_lt' {h:Heap} {b:Nat} {o:Obj} (e:h[b]?=some o):b<h.length:=(List.getElem?_eq_some_iff.1 e).1
theorem WinO.keep {tE:TypeId} {h h':Heap} {b:Nat} {own o2:Option Nat} {regs:Nat→Int} {l:List Ent} (hw:WinO tE h b own regs l) (hk:Keep h h' o2) (h1:o2≠some b) (h2:o2≠own∨o2=none):WinO tE h' b own regs l:=by
 obtain ⟨t,cs,lv,e1,e2,e3,e4⟩:=hw
 refine ⟨t,cs,lv,by rw [hk.2 b (get_lt' e1) (fun e=>h1 e.symm)];exact e1,e2,e3,?_⟩
 rcases e4 with ⟨p,q,r⟩ | ⟨r,e,rows,rfl,q1,q2,q3,q4⟩
 ·exact .inl ⟨p,q,r⟩
 ·refine .inr ⟨r,e,rows,rfl,q1,?_,q3,q4⟩
  rw [hk.2 r (get_lt' q2) ?_]
  ·exact q2
  ·intro e
   rcases h2 with h2 | h2
   ·exact h2 e.symm
   ·rw [h2] at e;cases e
def x8O (regs:Nat→Int) (l:List Ent) (i:Nat):List Ent:=if hi:i<l.length then (if canW regs l i then l.set i (l[i].done (valW regs l i l[i].ins)) else l) else l
set_option maxHeartbeats 1000000 in
theorem xcc {base:Nat} {tE:TypeId} {h:Heap} {b:Nat} {own:Option Nat} {regs:Nat→Int} {l:List Ent} (cv dv ev:V) (hcv:zm cv=true) (hdv:zm dv=true) (hev:zm ev=true) (hW:WinO tE h b own regs l) (hok:∀ e∈l,Ari e) (hlen:l.length<2147483648) {i:Nat} (hi:i<l.length):WpF S0 base x1z [.ptr b 0,.agg [cv,dv,ev],V.int i] h fun v h'=>v=.bool (canW regs l i)∧WinO tE h' b own regs (x8O regs l i)∧Keep h h' own:=by
 have hW1:WinO tE (h++[imgA cv dv ev]) b own regs l:=hW.keep (Keep.app h _ none) (by simp) (.inr rfl)
 have hC:=fun base=>xmO (base:=base) hW1.at hok hlen hi
 have hO:=fun base=>xiN (base:=base) hW1.at (fun e he=>(hok e he).2.2.2) hlen hi
 obtain ⟨b0,o1,o2,_⟩:=hok _ (List.getElem_mem hi)
 have ari:=hok _ (List.getElem_mem hi)
 unfold x8O
 rw [dif_pos hi]
 cases hcan:canW regs l i with
 | false =>
  rw [hcan] at hC
  simp only [Bool.false_eq_true,if_false]
  first | refine zu (A:=x0h) rfl rfl rfl rfl ?_ | refine zB (A:=x0h) rfl rfl rfl rfl ?_
  simp only [x0h,oD,cD,τ,φ,ι]
  simp only [SQ,SQB,AOp.opds,step,Opd.get,zk,bin,zzc,IntKind.signed,zi,zj,zl,zb,unary,ze,zd,za,zo,zr,zh,zf,zg,zp,Cp.isFull,isNil,zq,simprocAttr,SQX,V.cells,xa8,hcv,hdv,hev,zn (hC _)]
  exact ⟨hW1,Keep.app _ _ _⟩
 | true =>
  rw [hcan] at hC
  simp only [if_true]
  have hWa:=hW1
  obtain ⟨t0,cs,lv,e1,e2,e3,e4⟩:=hW1
  have hl32:zl (h++[imgA cv dv ev]) none (.ptr b 32)=some lv:=by rw [x2Y e1];exact e3
  rcases e4 with ⟨rfl,_,_⟩ | ⟨rr,ee,rows,rfl,rfl,q2,q3,q4⟩
  ·simp at hi
  have hix:zi (h++[imgA cv dv ev]) 18 i (.hsl rr ee 0 l.length)=some (.rptr rr ee i 0):=x5I q2 hi q3
  have l7:zl (h++[imgA cv dv ev]) (some 7) (.rptr rr ee i 1)=some (ins l[i].ins.op l[i].ins.rd l[i].ins.a l[i].ins.b l[i].ins.imm l[i].ins.aq l[i].ins.rl):=by
   rw [x5R q2 (q4 i hi) (by simp [rowE])];rfl
  have hBr:=fun base h=>x6W (base:=base) l[i].ins.op h
  have hRe:=fun base h=>xaE (base:=base) l[i].ins.op h
  have hKk:=fun base x y h=>xhl (base:=base) l[i].ins.op l[i].ins.rd l[i].ins.a l[i].ins.b l[i].ins.imm l[i].ins.aq l[i].ins.rl x y o1 o2 h
  have hV:=fun base n=>xha (base:=base) n q2 (q4 i hi)
  have n4:¬ l[i].ins.op=4:=by omega
  have bf:inI l[i].ins.op 5 10=false:=by unfold inI;simp;omega
  have rf:decide (22≤l[i].ins.op∧l[i].ins.op≤62)=true:=by simp;omega
  rw [bf] at hBr
  rw [rf] at hRe
  have fin:WinO tE ((h++[imgA cv dv ev]).set rr (.row tE 18 ee (rows.set i (rowE (l[i].done (valW regs l i l[i].ins)))))) b (some rr) regs (l.set i (l[i].done (valW regs l i l[i].ins))):=by
   have hne:b≠rr:=fun e=>hWa.ne (by rw [e])
   refine ⟨t0,cs,_,by rw [List.getElem?_set_ne (fun e=>hne e.symm)];exact e1,e2,e3,.inr ⟨rr,ee,_,rfl,by rw [List.length_set],by rw [List.getElem?_set_self (get_lt' q2)],by rw [List.length_set,List.length_set];exact q3,fun j hj=>?_⟩⟩
   rw [List.length_set] at hj
   rw [List.getElem?_set,List.getElem_set]
   by_cases e:i=j
   ·subst e
    have:i<rows.length:=by omega
    simp [this]
   ·rw [if_neg e,if_neg e]
    exact q4 j hj
  unfold valW at fin ⊢
  generalize (rgW regs l i l[i].ins.a).1=A at *
  generalize (rgW regs l i l[i].ins.b).1=B at *
  first | refine zu (A:=x0h) rfl rfl rfl rfl ?_ | refine zB (A:=x0h) rfl rfl rfl rfl ?_
  simp only [x0h,oD,cD,τ,φ,ι]
  simp only [SQ,SQB,AOp.opds,step,Opd.get,bin,zzc,IntKind.signed,zj,zb,unary,ze,zd,za,zo,zr,zh,zf,zg,zp,Cp.isFull,isNil,zq,simprocAttr,SQX,V.cells,xa8,hcv,hdv,hev,zn (hC _),zn (hO _),hl32,hix,l7,ldE,n4,zn (hBr _ _),zn (hRe _ _),zn (hKk _ _ _ _),zn (hV _ _),List.take_length,List.take_succ_cons,List.take_zero]
  exact ⟨fin,(Keep.app h _ _).trans (Keep.set _ _ _)⟩
theorem xi0 {base:Nat} {tE:TypeId} {h:Heap} {b:Nat} {own:Option Nat} {regs:Nat→Int} {l:List Ent} (cv dv ev:V) (hcv:zm cv=true) (hdv:zm dv=true) (hev:zm ev=true) (hW:WinO tE h b own regs l) {i:Int} (hi:i<0∨(l.length:Int)≤i):WpF S0 base x1z [.ptr b 0,.agg [cv,dv,ev],.sc (.int .i64 i)] h fun v h'=>v=.bool false∧WinO tE h' b own regs l∧Keep h h' own:=by
 have hW1:WinO tE (h++[imgA cv dv ev]) b own regs l:=hW.keep (Keep.app h _ none) (by simp) (.inr rfl)
 have hC:=fun base=>xkA (base:=base) hW1.at hi
 first | refine zu (A:=x0h) rfl rfl rfl rfl ?_ | refine zB (A:=x0h) rfl rfl rfl rfl ?_
 simp only [x0h,oD,cD,τ,φ,ι]
 simp only [SQ,SQB,AOp.opds,step,Opd.get,zk,bin,zzc,IntKind.signed,zi,zj,zl,zb,unary,ze,zd,za,zo,zr,zh,zf,zg,zp,Cp.isFull,isNil,zq,simprocAttr,SQX,V.cells,xa8,hcv,hdv,hev,zn (hC _)]
 exact ⟨hW1,Keep.app _ _ _⟩
end
section
abbrev tyE:TypeId:=34
theorem x6N (e:Ent):(rowE e).length=18∧(rowE e).all zm=true∧∀ n,x0B n (rowE e)=true:=⟨rfl,rfl,fun _=>rfl⟩
abbrev zerE:List V:=[sci 0,sci 0,sci 0,sci 0,sci 0,sci 0,scb false,scb false,sci 0,sci 0,scb false,sci 0,sci 0,scb false,scb false,scb false,sci 0,sci 0]
theorem xic {base:Nat} {h:Heap} {rr ee n:Nat} {rows:List (List V)} (hg:h[rr]?=some (.row tyE 18 ee rows)) (h1:1≤n) (hn:n≤rows.length) (hlim:n<2147483648) (hok:∀ k,k<n→∃ r,rows[k]?=some r∧r.length=18∧r.all zm=true∧x0B (rr+1) r=true) :
  ∃ e1 R2,R2.length=rows.length∧(∀ k,k<n-1→R2[k]?=rows[k+1]?)∧WpF S0 base x16 [.hsl rr ee 0 n,sci 0,sci 1] h fun v h'=>v=.hsl rr e1 0 (n-1)∧h'=h.set rr (.row tyE 18 e1 R2):=by
 have hrl:=get_lt' hg
 have f1:∃ x,zg h 18 (.hsl rr ee 0 n) 0 (some 1) (some n)=some (x,h):=by
  simp only [zg,hg,Option.getD_some]
  rw [if_pos ⟨by omega,h1⟩,if_pos ⟨trivial,trivial⟩]
  by_cases c:n=1∧True∧True∧rows.length=n
  ·rw [if_pos c,if_pos c.1.symm];exact ⟨_,rfl⟩
  ·rw [if_neg c,if_pos ⟨h1,by omega⟩];exact ⟨_,rfl⟩
 obtain ⟨x,f1⟩:=f1
 have f2:zg h 18 (.hsl rr ee 0 n) 0 (some 0) none=some (.hsl rr ee 0 0,h):=by
  simp only [zg,hg,Option.getD_some]
  rw [if_pos ⟨by omega,by omega⟩,if_pos ⟨trivial,trivial⟩]
 have f3:zg h 18 (.hsl rr ee 0 n) 1 none none=some (.hsl rr ee 1 (n-1),h):=by
  simp only [zg,hg,Option.getD_none]
  rw [if_pos ⟨by omega,by omega⟩,if_pos ⟨trivial,trivial⟩]
 have f4:x30 18 h (.hsl rr ee 1 (n-1))=some ((rows.drop 1).take (n-1)):=by
  simp only [x30,x5u,rowAt,hg,if_true]
  rw [if_pos ⟨trivial,by omega⟩]
 have hl4:((rows.drop 1).take (n-1)).length=n-1:=by simp;omega
 have hm4:∀ r∈(rows.drop 1).take (n-1),r.length=18∧r.all zm=true∧x0B (rr+1) r=true:=by
  intro r hr
  obtain ⟨k,hk⟩:=List.getElem?_of_mem hr
  have hkl:k<n-1:=by
   have:=(List.getElem?_eq_some_iff.1 hk).1
   omega
  rw [List.getElem?_take_of_lt hkl,List.getElem?_drop] at hk
  obtain ⟨r',e,p⟩:=hok (1+k) (by omega)
  rw [hk] at e
  injection e with e
  rw [e]
  exact p
 obtain ⟨e1,R1,f5,r1,r2⟩:∃ e1 R1,x1D base h tyE 18 (.hsl rr ee 0 0) ((rows.drop 1).take (n-1))=some (.hsl rr e1 0 (n-1),h.set rr (.row tyE 18 e1 R1))∧R1.length=rows.length∧∀ k,k<n-1→R1[k]?=rows[k+1]?:=by
  by_cases hz:n=1
  ·subst hz
   refine ⟨ee,rows,?_,rfl,fun k hk=>by omega⟩
   have e0:(rows.drop 1).take (1-1)=[]:=by simp
   have e2:h.set rr (.row tyE 18 ee rows)=h:=by
    apply List.ext_getElem?
    intro c
    by_cases e:rr=c
    ·subst e;rw [List.getElem?_set_self hrl,hg]
    ·rw [List.getElem?_set_ne e]
   rw [e0,e2]
   simp [x1D,x5u,rowAt,hg]
  ·have hne:(rows.drop 1).take (n-1)≠[]:=by
    intro e
    rw [e] at hl4
    simp at hl4
    omega
   refine ⟨ee+1,(rows.drop 1).take (n-1)++rows.drop (n-1),?_,by simp;omega,fun k hk=>?_⟩
   ·generalize hN:(rows.drop 1).take (n-1)=N at *
    cases N with
    | nil=>exact absurd rfl hne
    | cons a r =>
     have cnd:True∧True∧True∧0≤rows.length∧0+(a::r).length≤lim∧x5m 18 (a::r)=true∧(a::r).all (x0H base rr)=true:=by
      refine ⟨trivial,trivial,trivial,Nat.zero_le _,by rw [hl4];unfold lim;omega,?_,?_⟩
      ·unfold x5m
       rw [List.all_eq_true]
       intro y hy
       have:=hm4 y hy
       simp only [Bool.and_eq_true,beq_iff_eq,this.1,this.2.1,and_self]
      ·rw [List.all_eq_true]
       intro y hy
       unfold x0H
       rw [(hm4 y hy).2.2,Bool.or_true]
     simp only [x1D,hg]
     rw [if_pos cnd,if_neg (by omega),Nat.zero_add,hl4,List.take_zero,List.nil_append]
   ·rw [List.getElem?_append_left (by omega),List.getElem?_take_of_lt hk,List.getElem?_drop,Nat.add_comm]
 have g1:(h.set rr (.row tyE 18 e1 R1))[rr]?=some (.row tyE 18 e1 R1):=by rw [List.getElem?_set_self hrl]
 have f6:zg (h.set rr (.row tyE 18 e1 R1)) 18 (.hsl rr e1 0 (n-1)) (n-1) (some n) none=some (.hsl rr e1 (n-1) 1,h.set rr (.row tyE 18 e1 R1)):=by
  simp only [zg,Option.getD_some]
  rw [if_neg (by omega)]
  simp only [farV,rowAt,g1,if_true]
  rw [if_pos ⟨trivial,by omega,by omega,rfl⟩,Nat.zero_add,show n-(n-1)=1 by omega]
  rfl
 have f7:x9c base (h.set rr (.row tyE 18 e1 R1)) 18 (.hsl rr e1 (n-1) 1) [zerE]=some (1,h.set rr (.row tyE 18 e1 (R1.take (n-1)++[zerE]++R1.drop n))):=by
  simp only [x9c,zk,List.length_cons,List.length_nil,Nat.zero_add,Nat.min_self,g1]
  rw [if_neg (by omega),if_pos ⟨trivial,trivial,by omega,rfl,by simp [x0H,x0B,x0n]⟩,List.set_set]
  simp only [List.take_succ_cons,List.take_zero,List.length_cons,List.length_nil,Nat.zero_add,show n-1+1=n by omega]
 refine ⟨e1,R1.take (n-1)++[zerE]++R1.drop n,by simp;omega,fun k hk=>?_,?_⟩
 ·rw [List.append_assoc,List.getElem?_append_left (by simp;omega),List.getElem?_take_of_lt hk]
  exact r2 k hk
 ·have wn:((n-1:Nat):Int)=(n:Int)-1:=by omega
  first | refine zu (A:=x0f) rfl rfl rfl rfl ?_ | refine zB (A:=x0f) rfl rfl rfl rfl ?_
  simp only [x0f,oD,cD,τ,φ,ι]
  simp only [SQ,SQB,zm,AOp.opds,step,Opd.get,zk,bin,zzc,IntKind.signed,zi,zj,zl,zb,unary,ze,zd,za,zo,zr,zh,zf,zp,Cp.isFull,isNil,zq,simprocAttr,SQX,V.cells,f1,f2,f3,f4,f5,f6,f7,List.take_length]
end
section
def xbt (h h':Heap) (b:Nat) (own own':Option Nat):Prop:=h.length≤h'.length∧(∀ c,c<h.length→c≠b→some c≠own→h'[c]?=h[c]?)∧∀ c,own'=some c→c<h.length→own=some c
def retR (regs:Nat→Int) (e:Ent):Nat→Int:=fun k=>if e.ins.rd≠0∧e.ins.rd.toNat=k then e.val else regs k
theorem xcD {base:Nat} {h:Heap} {b off:Nat} {t:TypeId} {cs:List V} {x:V} (hx:zm x=true) (hg:h[b]?=some (.box t cs)) (ho:off<cs.length) (hb:base≤b) :
  x0y base h 1 (.ptr b off) x=some (h.set b (.box t (cs.set off x))):=by
 have hc:x.cells=[x]:=by cases x<;>first | rfl | cases hx
 have h1:off+1≤cs.length:=ho
 have hm:x0H base b [x]=true:=by simp [x0H,hb]
 simp only [x0y,hc,List.length_cons,List.length_nil,List.all_cons,List.all_nil,hx,Bool.and_true,Nat.zero_add,and_self,hg,if_true,h1,hm,x8c ho]
theorem xcB {base:Nat} {h:Heap} {z:Nat} {t:TypeId} {cs new:List V} (hg:h[z]?=some (.box t cs)) (hn:new.length=cs.length) (ho:new.all zm=true) (hr:x0B (z+1) new=true) :
  x0y base h cs.length (.ptr z 0) (.agg new)=some (h.set z (.box t new)):=by
 have hm:x0H base z new=true:=by simp [x0H,hr]
 have hp:x0E cs 0 new=new:=by
  unfold x0E
  rw [List.take_zero,List.nil_append,Nat.zero_add,hn,List.drop_length,List.append_nil]
 simp only [x0y,V.cells,hn,ho,and_self,hg,if_true,Nat.zero_add,Nat.le_refl,hm,hp]
theorem xcL {base b z n rr ee:Nat} {t0 tz:TypeId} {h:Heap} {cs zc:List V} {rows:List (List V)} {l:List Ent} (e:Ent) (hn:n=l.length+1) (hb:h[b]?=some (.box t0 cs)) (hr:h[rr]?=some (.row tyE 18 ee rows)) (hz:h[z]?=some (.box tz zc)) (hzc:zc.length=18) (hcs:32<cs.length) (hbb:base≤b) (hbz:b≠z) (hle:n≤rows.length) (hlim:n<2147483648) (hall:∀ i (hi:i<(e::l).length),rows[i]?=some (rowE ((e::l)[i]))) :
  ∃ e1 h3 h4 h5,WpF S0 base x16 [.hsl rr ee 0 n,sci 0,sci 1] h (fun v h'=>v=.hsl rr e1 0 l.length∧h'=h3)∧x0y base h3 1 (.ptr b 32) (.hsl rr e1 0 l.length)=some h4∧x0y base h4 18 (.ptr z 0) (.agg (rowE e))=some h5∧zl h5 (some 18) (.ptr z 0)=some (.agg (rowE e))∧h5[b]?=some (.box t0 (cs.set 32 (.hsl rr e1 0 l.length)))∧(∃ R2,h5[rr]?=some (.row tyE 18 e1 R2)∧l.length≤R2.length∧∀ i (hi:i<l.length),R2[i]?=some (rowE l[i]))∧h5.length=h.length∧∀ c,c≠b→c≠rr→c≠z→h5[c]?=h[c]?:=by
 have hbr:b≠rr:=fun q=>by subst q;rw [hb] at hr;cases hr
 have hzr:z≠rr:=fun q=>by subst q;rw [hz] at hr;cases hr
 obtain ⟨e1,R2,q1,q2,q3⟩:∃ e1 R2,R2.length=rows.length∧(∀ k,k<n-1→R2[k]?=rows[k+1]?)∧WpF S0 base x16 [.hsl rr ee 0 n,sci 0,sci 1] h (fun v h'=>v=.hsl rr e1 0 (n-1)∧h'=h.set rr (.row tyE 18 e1 R2)):=by
  refine xic hr (by omega) hle hlim fun k hk=>?_
  obtain ⟨p1,p2,p3⟩:=x6N ((e::l)[k]'(by simp;omega))
  exact ⟨_,hall k (by simp;omega),p1,p2,p3 _⟩
 have nn:n-1=l.length:=by omega
 simp only [nn] at q2 q3
 have g3:(h.set rr (.row tyE 18 e1 R2))[b]?=some (.box t0 cs):=by rw [List.getElem?_set_ne (fun q=>hbr q.symm)];exact hb
 have s4:=xcD (base:=base) (x:=.hsl rr e1 0 l.length) rfl g3 hcs hbb
 have g4:((h.set rr (.row tyE 18 e1 R2)).set b (.box t0 (cs.set 32 (.hsl rr e1 0 l.length))))[z]?=some (.box tz zc):=by
  rw [List.getElem?_set_ne hbz,List.getElem?_set_ne (fun q=>hzr q.symm)];exact hz
 have s5:=xcB (base:=base) g4 (new:=rowE e) (by rw [hzc];rfl) (x6N e).2.1 ((x6N e).2.2 _)
 rw [hzc] at s5
 have lz:=get_lt' hz
 have lb:=get_lt' hb
 have lr:=get_lt' hr
 refine ⟨e1,_,_,_,q3,s4,s5,?_,?_,⟨R2,?_,by omega,fun i hi=>?_⟩,by simp,fun c c1 c2 c3=>?_⟩
 ·rw [x2Y (by rw [List.getElem?_set_self (by simpa using lz)])]
  rfl
 ·rw [List.getElem?_set_ne (fun q=>hbz q.symm),List.getElem?_set_self (by simpa using lb)]
 ·rw [List.getElem?_set_ne hzr,List.getElem?_set_ne hbr,List.getElem?_set_self lr]
 ·rw [q2 i (by omega),hall (i+1) (by simp;omega)]
  rfl
 ·rw [List.getElem?_set_ne (fun q=>c3 q.symm),List.getElem?_set_ne (fun q=>c1 q.symm),List.getElem?_set_ne (fun q=>c2 q.symm)]
set_option maxHeartbeats 1000000 in
theorem xhj {base:Nat} {h:Heap} {b:Nat} {own:Option Nat} {regs:Nat→Int} {e:Ent} {l:List Ent} (hbb:base≤b) (hW:WinO tyE h b own regs (e::l)) (hd:e.don=true) (hbad:e.bad=0) (hm:e.ins.may=true) (hi64:I64 e.ins.imm) (hr0:0≤e.ins.rd) (hr1:e.ins.rd<32) (hlen:l.length<2147483647):WpF S0 base x44 [.ptr b 0] h fun v h'=>v=.tup [.agg (rowE e),scb true]∧WinO tyE h' b own (retR regs e) l∧xbt h h' b own own:=by
 have hbl:b<h.length:=by obtain ⟨t,cs,lv,e1,_⟩:=hW;exact get_lt' e1
 have hWr:=fun base h=>x6V (base:=base) e.ins.op e.ins.rd e.ins.a e.ins.b e.ins.imm e.ins.aq e.ins.rl h hi64.1 hi64.2
 rw [show mayI e.ins.op e.ins.rd e.ins.a e.ins.b e.ins.imm e.ins.aq e.ins.rl=true from hm] at hWr
 have hW1:WinO tyE (h++[.box 34 zerE]) b own regs (e::l):=hW.keep (Keep.app h _ none) (by simp) (.inr rfl)
 have hA:=fun base {lv} hlv {p} hp=>xmV (base:=base) (i:=0) hW1.at (by simp) (by simp;omega) (lv:=lv) hlv (p:=p) hp
 obtain ⟨t0,cs,lv,e1,e2,e3,e4⟩:=hW1
 have hl32:zl (h++[.box 34 zerE]) none (.ptr b 32)=some lv:=by rw [x2Y e1];exact e3
 rcases e4 with ⟨q,_⟩ | ⟨rr,ee,rows,rfl,rfl,f2,f3,f4⟩
 ·cases q
 have row0:rows[0]?=some (rowE e):=f4 0 (by simp)
 have hrl:rr<h.length:=by
  have:=get_lt' f2
  rw [List.length_append,List.length_cons,List.length_nil] at this
  have hne:rr≠h.length:=fun q=>by subst q;simp at f2
  omega
 have hix:zi (h++[.box 34 zerE]) 18 0 (.hsl rr ee 0 (e::l).length)=some (.rptr rr ee 0 0):=x5I f2 (by simp) f3
 have hA':∀ base,WpF S0 base x3W [.ptr b 0,sci 0] (h++[.box 34 zerE]) fun v h'=>v=.rptr rr ee 0 0∧h'=h++[.box 34 zerE]:=fun base=>hA base hl32 hix
 have l14:zl (h++[.box 34 zerE]) none (.rptr rr ee 0 14)=some (scb true):=by rw [x5R f2 row0 (by simp [rowE]),← hd];rfl
 have l11:zl (h++[.box 34 zerE]) none (.rptr rr ee 0 11)=some (sci 0):=by rw [x5R f2 row0 (by simp [rowE]),← hbad];rfl
 have l18:zl (h++[.box 34 zerE]) (some 18) (.rptr rr ee 0 0)=some (.agg (rowE e)):=by rw [x5R f2 row0 (by simp [rowE])];rfl
 have c7:zb (some 7) (rowE e) 1=some (ins e.ins.op e.ins.rd e.ins.a e.ins.b e.ins.imm e.ins.aq e.ins.rl):=rfl
 have c12:zb none (rowE e) 12=some (sci e.val):=rfl
 have c18:zb (some 18) (rowE e) 0=some (.agg (rowE e)):=rfl
 have hg1:(rowE e).all x1h=true:=rfl
 have hg2:(rowE e).length=18:=rfl
 have cl:32<cs.length:=(List.getElem?_eq_some_iff.1 e3).1
 have hne:b≠h.length:=by omega
 have rw0:¬ e.ins.rd<0:=by omega
 have nat32:e.ins.rd.toNat<32:=by omega
 by_cases hz:e.ins.rd=0
 ·rw [show decide (e.ins.rd≠0)=false by simp [hz]] at hWr
  simp only [if_true,Bool.true_and] at hWr
  obtain ⟨e1',h3,h4,h5,d1,d2,d3,d4,d5,⟨R2,d6,d7,d8⟩,d9,d10⟩:=xcL (base:=base) e rfl e1 f2 x3I (show zerE.length=18 from rfl) cl hbb hne f3 (by omega) f4
  first | refine zu (A:=x0x) rfl rfl rfl rfl ?_ | refine zB (A:=x0x) rfl rfl rfl rfl ?_
  simp only [x0x,oD,cD,τ,φ,ι]
  simp only [SQ,SQB,zm,AOp.opds,step,Opd.get,zk,bin,zzc,IntKind.signed,zj,unary,ze,zd,za,zo,zr,zh,zf,zg,zp,Cp.isFull,isNil,zq,simprocAttr,SQX,V.cells,zn (hA' _),l14,l11,l18,ldE,c7,c12,c18,hg1,hg2,zn (hWr _ _),hl32,zn d1,d2,d3,d4,List.take_length,List.take_succ_cons,List.take_zero]
  refine ⟨⟨t0,_,_,d5,fun k hk=>?_,by simp [cl],.inr ⟨rr,e1',R2,rfl,rfl,d6,d7,d8⟩⟩,?_,fun c c1 c2 c3=>?_,fun c hc _=>hc⟩
  ·rw [List.getElem?_set_ne (by omega),e2 k hk]
   unfold retR
   rw [if_neg (by simp [hz])]
  ·rw [d9];simp
  ·rw [d10 c c2 (fun q=>c3 (by rw [q])) (by omega),List.getElem?_append_left c1]
 ·rw [show decide (e.ins.rd≠0)=true by simp [hz]] at hWr
  simp only [if_true,Bool.true_and] at hWr
  have s1:=xiH (base:=base) (x:=.int .i64 e.val) e1 (off:=e.ins.rd.toNat) (by omega)
  have hbr:b≠rr:=fun q=>by subst q;rw [e1] at f2;cases f2
  have gb:((h++[Obj.box 34 zerE]).set b (Obj.box t0 (cs.set e.ins.rd.toNat (sci e.val))))[b]?=some (.box t0 (cs.set e.ins.rd.toNat (sci e.val))):=List.getElem?_set_self (get_lt' e1)
  have gr:((h++[Obj.box 34 zerE]).set b (Obj.box t0 (cs.set e.ins.rd.toNat (sci e.val))))[rr]?=some (.row tyE 18 ee rows):=by rw [List.getElem?_set_ne hbr];exact f2
  have gz:((h++[Obj.box 34 zerE]).set b (Obj.box t0 (cs.set e.ins.rd.toNat (sci e.val))))[h.length]?=some (.box 34 zerE):=by rw [List.getElem?_set_ne hne];exact x3I
  have g32:zl ((h++[Obj.box 34 zerE]).set b (Obj.box t0 (cs.set e.ins.rd.toNat (sci e.val)))) none (.ptr b 32)=some (.hsl rr ee 0 (e::l).length):=by
   rw [x2Y gb]
   show (cs.set _ _)[32]?=_
   rw [List.getElem?_set_ne (by omega)]
   exact e3
  obtain ⟨e1',h3,h4,h5,d1,d2,d3,d4,d5,⟨R2,d6,d7,d8⟩,d9,d10⟩:=xcL (base:=base) e rfl gb gr gz (show zerE.length=18 from rfl) (by rw [List.length_set];exact cl) hbb hne f3 (by omega) f4
  first | refine zu (A:=x0x) rfl rfl rfl rfl ?_ | refine zB (A:=x0x) rfl rfl rfl rfl ?_
  simp only [x0x,oD,cD,τ,φ,ι]
  simp only [SQ,SQB,zm,AOp.opds,step,Opd.get,zk,bin,zzc,IntKind.signed,zj,unary,ze,zd,za,zo,zr,zh,zf,zg,zp,Cp.isFull,isNil,zq,simprocAttr,SQX,V.cells,zn (hA' _),l14,l11,l18,ldE,c7,c12,c18,hg1,hg2,zn (hWr _ _),hr0,rw0,nat32,hr1,Nat.mul_one,s1,g32,zn d1,d2,d3,d4,List.take_length,List.take_succ_cons,List.take_zero]
  refine ⟨⟨t0,_,_,d5,fun k hk=>?_,by simp [cl],.inr ⟨rr,e1',R2,rfl,rfl,d6,d7,d8⟩⟩,?_,fun c c1 c2 c3=>?_,fun c hc _=>hc⟩
  ·rw [List.getElem?_set_ne (by omega),List.getElem?_set]
   unfold retR
   by_cases q:e.ins.rd.toNat=k
   ·rw [if_pos q,if_pos (by omega),if_pos ⟨hz,q⟩]
   ·rw [if_neg q,if_neg (fun w=>q w.2),e2 k hk]
  ·rw [d9];simp
  ·rw [d10 c c2 (fun q=>c3 (by rw [q])) (by omega),List.getElem?_set_ne (fun q=>c2 q.symm),List.getElem?_append_left c1]
end
section
theorem xiY {a:Int} (ha:I64 a) (k:Nat):I64 (a.fdiv (2 ^ k)):=by
 have hp:(1:Int)≤2 ^ k:=by
  have:=Nat.two_pow_pos k
  have e:((2 ^ k:Nat):Int)=2 ^ k:=by simp
  omega
 rw [Int.fdiv_eq_ediv_of_nonneg _ (by omega)]
 generalize (2:Int) ^ k=p at *
 obtain ⟨h1,h2⟩:=ha
 refine ⟨Int.le_ediv_of_mul_le (by omega) ?_,?_⟩
 ·have:(-9223372036854775808:Int)*p≤-9223372036854775808*1:=Int.mul_le_mul_of_nonpos_left (by decide) hp
  omega
 ·by_cases h:0≤a
  ·have:=Int.ediv_le_self p h
   omega
  ·have:=Int.ediv_neg_of_neg_of_pos (show a<0 by omega) (show 0<p by omega)
   omega
theorem xkU {a b:Int} (ha:I64 a):I64 (a.tmod b):=by
 have h:=Int.natAbs_tmod a b
 have h2:=Nat.mod_le a.natAbs b.natAbs
 unfold I64 at *
 by_cases c:0≤a
 ·have:=Int.tmod_nonneg b c
  omega
 ·have:=Int.tmod_nonneg b (show 0≤-a by omega)
  rw [Int.neg_tmod] at this
  omega
theorem xnh (a b:Int):I64 (quoI a b):=by
 unfold quoI
 repeat' split
 ·unfold I64;omega
 ·exact xdq _
 ·exact xdq _
theorem xl3 (a b:Nat):I64 (quoU a b):=by
 unfold quoU
 split
 ·unfold I64;omega
 ·exact xdq _
theorem xnf {a b:Int} (ha:I64 a):I64 (remI a b):=by
 unfold remI
 repeat' split
 ·exact ha
 ·unfold I64;omega
 ·exact xkU ha
theorem xkZ (a b:Nat):I64 (remU a b):=by
 unfold remU
 split<;>exact xdq _
theorem xlF (a b:Int) (sa sb:Bool):I64 (x5q a b sa sb):=by
 unfold x5q
 dsimp only
 repeat' split
 all_goals exact xdq _
theorem xov {c:Prop} [Decidable c] {x y:Int} (h1:I64 x) (h2:I64 y):I64 (if c then x else y):=by split<;>assumption
theorem xki {op a b:Int} (ha:I64 a):I64 (x1X op a b):=by
 have h01:I64 0∧I64 1:=⟨by unfold I64;omega,by unfold I64;omega⟩
 unfold x1X xaG xaA xcz x5B xorI orI andI
 repeat' (first
  | with_reducible refine xov ?_ ?_
  | with_reducible exact xdq _
  | with_reducible exact x2i _
  | with_reducible exact h01.1
  | with_reducible exact h01.2
  | with_reducible exact xiY ha _
  | with_reducible exact xiY (x2i _) _
  | with_reducible exact xnh _ _
  | with_reducible exact xl3 _ _
  | with_reducible exact xnf ha
  | with_reducible exact xkZ _ _
  | with_reducible exact xlF _ _ _ _)
end
section
def Arm (e:Ent):Prop:=Ari e∧e.ins.may=true
def rgF (regs:Nat→Int) (r:Int) (l:List Ent):Int×Bool:=l.foldl (fun p e=>if e.wr r then (e.val,e.rdy) else p) (regs r.toNat,true)
theorem xcK (regs:Nat→Int) (r:Int) (l:List Ent) (e:Ent):rgF regs r (l++[e])=if e.wr r then (e.val,e.rdy) else rgF regs r l:=by
 unfold rgF
 rw [List.foldl_append]
 rfl
theorem xnd (regs:Nat→Int) (r:Int) (l:List Ent):rgS regs r l=(if (rgF regs r l.reverse).2 then (rgF regs r l.reverse).1 else 0,(rgF regs r l.reverse).2):=by
 induction l with
 | nil=>rfl
 | cons e l ih =>
  rw [x6r,List.reverse_cons,xcK,ih]
  cases e.wr r with
  | true=>cases e.rdy<;>rfl
  | false=>rfl
theorem xgf {e:Ent} (h:Arm e):fRd (x0a e.ins.op)=true:=by
 rcases x6s e.ins.op h.1.2.1 h.1.2.2.1 with q | q | q | q<;>rw [q]<;>rfl
set_option maxHeartbeats 1000000 in
theorem xiJ {base:Nat} {h:Heap} {b:Nat} {regs:Nat→Int} {l:List Ent} (hW:x9e h b regs l) (hok:∀ e∈l,Arm e) (hlen:l.length<2147483648) (i:Nat) (hi:i<2147483648) (r:Int):WpF S0 base x4Q [.ptr b 0,V.int i,.sc (.int .i64 r)] h fun v h'=>v=.tup [.sc (.int .i64 (rgW regs l i r).1),.bool (rgW regs l i r).2]∧h'=h:=by
 obtain ⟨lv,hl32,hL,hregs⟩:=hW.ld
 first | refine zu (A:=x0A) rfl rfl rfl rfl ?_ | refine zB (A:=x0A) rfl rfl rfl rfl ?_
 simp only [x0A,oD,cD,τ,φ,ι]
 by_cases hr:r≤0∨32≤r
 ·have e:rgW regs l i r=(0,true):=if_pos hr
  rw [e]
  by_cases h1:r<1
  ·simp only [SQ,SQB,zm,AOp.opds,step,Opd.get,zk,bin,zzc,IntKind.signed,zi,zj,zl,zb,unary,ze,zd,za,zo,zr,zh,zf,zg,zp,Cp.isFull,isNil,zq,simprocAttr,SQX,V.cells,h1,List.take_length,Nat.le_refl]
  ·have h2:31<r:=by omega
   simp only [SQ,SQB,zm,AOp.opds,step,Opd.get,zk,bin,zzc,IntKind.signed,zi,zj,zl,zb,unary,ze,zd,za,zo,zr,zh,zf,zg,zp,Cp.isFull,isNil,zq,simprocAttr,SQX,V.cells,h1,h2,List.take_length,Nat.le_refl]
 ·have e:rgW regs l i r=rgS regs r (l.take i).reverse:=if_neg hr
  rw [e,xnd,List.reverse_reverse]
  have h1:¬ r<1:=by omega
  have h2:¬ 31<r:=by omega
  have ix:(0:Int)≤r:=by omega
  have ixn:¬ r<(0:Int):=by omega
  have c32:r.toNat<32:=by omega
  have c32':r<32:=by omega
  have hld:=hregs r.toNat c32
  simp only [SQ,SQB,zm,AOp.opds,step,Opd.get,bin,zzc,IntKind.signed,zi,zj,zb,unary,ze,zd,za,zo,zr,zh,zf,zg,zp,Cp.isFull,isNil,zq,simprocAttr,SQX,V.cells,h1,h2,ix,ixn,c32,c32',Nat.mul_one,hld]
  refine x1y (fun k en h'=>∃ m:Nat,k=min i l.length-m∧m≤min i l.length∧en 10=V.int m∧en 0=.ptr b 0∧en 1=V.int i∧en 2=.sc (.int .i64 r)∧en 8=sci (rgF regs r (l.take m)).1∧en 9=scb (rgF regs r (l.take m)).2∧h'=h) (min i l.length) ⟨0,rfl,by omega,rfl,rfl,rfl,rfl,rfl,rfl,rfl⟩ ?_
  rintro _ en h' ⟨m,rfl,hm1,e10,e0,e1,e2,e8,e9,rfl⟩
  by_cases hml:m<min i l.length
  ·have hml2:m<l.length:=by omega
   have hmi:m<i:=by omega
   obtain ⟨rr,ee,t,rows,rfl,hg,hrow,hix,hld⟩:=hL.get hml2
   have arm:=hok _ (List.getElem_mem hml2)
   have hMay:=fun base h=>xfG (base:=base) l[m].ins.op l[m].ins.rd l[m].ins.a l[m].ins.b l[m].ins.imm l[m].ins.aq l[m].ins.rl h
   have hRd:=fun base h=>xc6 (base:=base) l[m].ins.op h
   rw [xgf arm] at hRd
   rw [show mayI l[m].ins.op l[m].ins.rd l[m].ins.a l[m].ins.b l[m].ins.imm l[m].ins.aq l[m].ins.rl=true from arm.2] at hMay
   have l7:zl h' (some 7) (.rptr rr ee m 1)=some (ins l[m].ins.op l[m].ins.rd l[m].ins.a l[m].ins.b l[m].ins.imm l[m].ins.aq l[m].ins.rl):=by
    rw [hld 1 (some 7) (by simp)];rfl
   have l13:zl h' none (.rptr rr ee m 13)=some (scb l[m].rdy):=by
    rw [hld 13 none (by simp)];rfl
   have l12:zl h' none (.rptr rr ee m 12)=some (sci l[m].val):=by
    rw [hld 12 none (by simp)];rfl
   have ws:IntKind.i64.wrap ((m:Int)+1)=((m+1:Nat):Int):=by rw [x08 (by omega) (by omega)];omega
   have hS:rgF regs r (l.take (m+1))=if l[m].wr r then (l[m].val,l[m].rdy) else rgF regs r (l.take m):=by
    rw [List.take_succ_eq_append_getElem hml2,xcK]
   unfold Ent.wr at hS
   rw [arm.2] at hS
   have kk:min i l.length-(m+1)<min i l.length-m:=by omega
   by_cases hq:l[m].ins.rd=r
   ·rw [if_pos (by simp [hq];omega)] at hS
    simp only [SQ,SQB,zm,AOp.opds,step,Opd.get,bin,zzc,IntKind.signed,zj,zb,unary,ze,zd,za,zo,zr,zh,zf,zg,zp,Cp.isFull,isNil,zq,simprocAttr,SQX,V.cells,e10,e0,e1,e2,hml2,hmi,hl32,zk,hix,l7,l12,l13,ldE,zn (hMay _ _),zn (hRd _ _),eq_true hq,ws,List.take_succ_cons,List.take_zero]
    refine ⟨_,kk,m+1,rfl,by omega,?_⟩
    simp [e0,e1,e2,hS,Env.put,Env.upd]
   ·rw [if_neg (by simp [hq])] at hS
    simp only [SQ,SQB,zm,AOp.opds,step,Opd.get,bin,zzc,IntKind.signed,zj,zb,unary,ze,zd,za,zo,zr,zh,zf,zg,zp,Cp.isFull,isNil,zq,simprocAttr,SQX,V.cells,e10,e0,e1,e2,hml2,hmi,hl32,zk,hix,l7,l12,l13,ldE,zn (hMay _ _),zn (hRd _ _),hq,ws,List.take_succ_cons,List.take_zero]
    refine ⟨_,kk,m+1,rfl,by omega,?_⟩
    simp [e0,e1,e2,e8,e9,hS,Env.put,Env.upd]
  ·have hmm:m=min i l.length:=by omega
   have htk:l.take i=l.take m:=by rw [hmm];exact List.take_eq_take_min
   rw [htk]
   generalize rgF regs r (l.take m)=F at *
   obtain ⟨F1,F2⟩:=F
   by_cases hmi:m<i
   ·have hml3:¬ m<l.length:=by omega
    cases F2<;>simp only [SQ,SQB,zm,AOp.opds,step,Opd.get,bin,zzc,IntKind.signed,zi,zj,zb,unary,ze,zd,za,zo,zr,zh,zf,zg,zp,Cp.isFull,isNil,zq,simprocAttr,SQX,V.cells,e10,e0,e1,e2,e8,e9,hmi,hml3,hl32,hL.len,List.take_length,Nat.le_refl]
   ·cases F2<;>simp only [SQ,SQB,zm,AOp.opds,step,Opd.get,bin,zzc,IntKind.signed,zi,zj,zb,unary,ze,zd,za,zo,zr,zh,zf,zg,zp,Cp.isFull,isNil,zq,simprocAttr,SQX,V.cells,e10,e0,e1,e2,e8,e9,hmi,List.take_length,Nat.le_refl]
end
section
theorem xkY {regs:Nat→Int} (hr:∀ k,I64 (regs k)) {r:Int}:∀ {l:List Ent},(∀ e∈l,I64 e.val)→I64 (rgS regs r l).1
 | [],_=>hr _
 | e::l,h=>by
  rw [x6r]
  have h0:I64 0:=by unfold I64;omega
  have h1:=h e (.head _)
  have ih:=xkY hr (r:=r) (l:=l) fun x hx=>h x (.tail _ hx)
  cases e.wr r<;>cases e.rdy<;>simp only [if_true,Bool.false_eq_true,if_false]<;>assumption
theorem xjv {regs:Nat→Int} (hr:∀ k,I64 (regs k)) {l:List Ent} (hl:∀ e∈l,I64 e.val) (i:Nat) (r:Int):I64 (rgW regs l i r).1:=by
 unfold rgW
 split
 ·unfold I64;omega
 ·exact xkY hr fun e he=>hl e (List.mem_of_mem_take (List.mem_reverse.1 he))
set_option maxHeartbeats 1000000 in
theorem xkg {base:Nat} {tE:TypeId} {h:Heap} {b:Nat} {own:Option Nat} {regs:Nat→Int} {l:List Ent} (cv dv ev:V) (hcv:zm cv=true) (hdv:zm dv=true) (hev:zm ev=true) (hW:WinO tE h b own regs l) (hok:∀ e∈l,Arm e) (hreg:∀ k,I64 (regs k)) (hval:∀ e∈l,I64 e.val) (hlen:l.length<2147483648) {i:Nat} (hi:i<l.length):WpF S0 base x2E [.ptr b 0,.agg [cv,dv,ev],V.int i] h fun v h'=>v=.tup []∧WinO tE h' b own regs (l.set i (l[i].done (valW regs l i l[i].ins)))∧Keep h h' own:=by
 have hW1:WinO tE (h++[.box 25 [cv,dv,ev]]) b own regs l:=hW.keep (Keep.app h _ none) (by simp) (.inr rfl)
 have hRA:=fun base=>xiJ (base:=base) hW1.at hok hlen i (by omega) l[i].ins.a
 have hRB:=fun base=>xiJ (base:=base) hW1.at hok hlen i (by omega) l[i].ins.b
 have ai:=xjv hreg hval i l[i].ins.a
 have bi:=xjv hreg hval i l[i].ins.b
 obtain ⟨⟨b0,o1,o2,ii⟩,may⟩:=hok _ (List.getElem_mem hi)
 have hEa:=fun base h=>xgh (base:=base) l[i].ins.op (rgW regs l i l[i].ins.a).1 (rgW regs l i l[i].ins.b).1 o1 o2 ai bi h
 have hEi:=fun base h=>xgh (base:=base) l[i].ins.op (rgW regs l i l[i].ins.a).1 l[i].ins.imm o1 o2 ai ii h
 have hAc:=fun base h=>xeE (base:=base) l[i].ins.op h
 have hFo:=fun base h=>xgb (base:=base) l[i].ins.op h
 have a0:accI l[i].ins.op=false:=by unfold accI;simp;omega
 rw [a0] at hAc
 have n4:¬ l[i].ins.op=4:=by omega
 have f4:¬ x0a l[i].ins.op=4:=by
  rcases x6s l[i].ins.op o1 o2 with q | q | q | q<;>rw [q]<;>decide
 have hWa:=hW1
 obtain ⟨t0,cs,lv,e1,e2,e3,e4⟩:=hW1
 have hl32:zl (h++[.box 25 [cv,dv,ev]]) none (.ptr b 32)=some lv:=by rw [x2Y e1];exact e3
 rcases e4 with ⟨rfl,_,_⟩ | ⟨rr,ee,rows,rfl,rfl,q2,q3,q4⟩
 ·simp at hi
 have hix:∀ rs,i<rs.length→l.length≤rs.length→zi ((h++[Obj.box 25 [cv,dv,ev]]).set rr (.row tE 18 ee rs)) 18 i (.hsl rr ee 0 l.length)=some (.rptr rr ee i 0):=fun rs _ hl=>x5I (List.getElem?_set_self (get_lt' q2)) hi hl
 have hix0:zi (h++[.box 25 [cv,dv,ev]]) 18 i (.hsl rr ee 0 l.length)=some (.rptr rr ee i 0):=x5I q2 hi q3
 have hne:b≠rr:=fun e=>hWa.ne (by rw [e])
 have hlb:∀ rs,zl ((h++[Obj.box 25 [cv,dv,ev]]).set rr (.row tE 18 ee rs)) none (.ptr b 32)=some (.hsl rr ee 0 l.length):=fun rs=>by
  rw [x2Y (by rw [List.getElem?_set_ne (fun e=>hne e.symm)];exact e1)]
  exact e3
 have l7:zl (h++[.box 25 [cv,dv,ev]]) (some 7) (.rptr rr ee i 1)=some (ins l[i].ins.op l[i].ins.rd l[i].ins.a l[i].ins.b l[i].ins.imm l[i].ins.aq l[i].ins.rl):=by
  rw [x5R q2 (q4 i hi) (by simp [rowE])];rfl
 have l0:zl (h++[.box 25 [cv,dv,ev]]) none (.rptr rr ee i 0)=some (sci l[i].pc):=by
  rw [x5R q2 (q4 i hi) (by simp [rowE])];rfl
 have hil:i<rows.length:=by omega
 have st:∀ {base:Nat} (rs:List (List V)) (cells:List V) (x:Value) (off:Nat),rs[i]?=some cells→off<cells.length→i<rs.length→x0y base ((h++[Obj.box 25 [cv,dv,ev]]).set rr (.row tE 18 ee rs)) 1 (.rptr rr ee i off) (.sc x)=some ((h++[Obj.box 25 [cv,dv,ev]]).set rr (.row tE 18 ee (rs.set i (cells.set off (.sc x))))):=fun rs cells x off h1 h2 _=>by
  rw [x9j (List.getElem?_set_self (get_lt' q2)) h1 h2,List.set_set]
 have s1:∀ base n,x0y base (h++[Obj.box 25 [cv,dv,ev]]) 1 (.rptr rr ee i 12) (sci n)=some ((h++[Obj.box 25 [cv,dv,ev]]).set rr (.row tE 18 ee (rows.set i ((rowE l[i]).set 12 (sci n))))):=fun base n=>x9j q2 (q4 i hi) (by simp [rowE])
 have s2:∀ base n,x0y base ((h++[Obj.box 25 [cv,dv,ev]]).set rr (.row tE 18 ee (rows.set i ((rowE l[i]).set 12 (sci n))))) 1 (.rptr rr ee i 13) (scb true)=some ((h++[Obj.box 25 [cv,dv,ev]]).set rr (.row tE 18 ee (rows.set i (((rowE l[i]).set 12 (sci n)).set 13 (scb true))))):=fun base n=>by
  rw [st (rows.set i ((rowE l[i]).set 12 (sci n))) ((rowE l[i]).set 12 (sci n)) _ 13 (List.getElem?_set_self hil) (by simp [rowE]) (by simpa using hil),List.set_set]
 have s3:∀ base n,x0y base ((h++[Obj.box 25 [cv,dv,ev]]).set rr (.row tE 18 ee (rows.set i (((rowE l[i]).set 12 (sci n)).set 13 (scb true))))) 1 (.rptr rr ee i 14) (scb true)=some ((h++[Obj.box 25 [cv,dv,ev]]).set rr (.row tE 18 ee (rows.set i (rowE (l[i].done n))))):=fun base n=>by
  rw [st (rows.set i (((rowE l[i]).set 12 (sci n)).set 13 (scb true))) (((rowE l[i]).set 12 (sci n)).set 13 (scb true)) _ 14 (List.getElem?_set_self hil) (by simp [rowE]) (by simpa using hil),List.set_set]
  rfl
 have hx1:=fun n=>hix (rows.set i ((rowE l[i]).set 12 (sci n))) (by simpa using hil) (by simpa using q3)
 have hx2:=fun n=>hix (rows.set i (((rowE l[i]).set 12 (sci n)).set 13 (scb true))) (by simpa using hil) (by simpa using q3)
 have fin:∀ n,WinO tE ((h++[Obj.box 25 [cv,dv,ev]]).set rr (.row tE 18 ee (rows.set i (rowE (l[i].done n))))) b (some rr) regs (l.set i (l[i].done n)):=fun n=>by
  refine ⟨t0,cs,_,by rw [List.getElem?_set_ne (fun e=>hne e.symm)];exact e1,e2,e3,.inr ⟨rr,ee,_,rfl,by rw [List.length_set],by rw [List.getElem?_set_self (get_lt' q2)],by rw [List.length_set,List.length_set];exact q3,fun j hj=>?_⟩⟩
  rw [List.length_set] at hj
  rw [List.getElem?_set,List.getElem_set]
  by_cases e:i=j
  ·subst e
   simp [hil]
  ·rw [if_neg e,if_neg e]
   exact q4 j hj
 unfold valW
 generalize rgW regs l i l[i].ins.a=A at *
 generalize rgW regs l i l[i].ins.b=B at *
 obtain ⟨A1,A2⟩:=A
 obtain ⟨B1,B2⟩:=B
 first | refine zu (A:=x0s) rfl rfl rfl rfl ?_ | refine zB (A:=x0s) rfl rfl rfl rfl ?_
 simp only [x0s,oD,cD,τ,φ,ι]
 by_cases f6:x0a l[i].ins.op=6
 ·rw [if_pos f6]
  simp only [SQ,SQB,AOp.opds,step,Opd.get,bin,zzc,IntKind.signed,zj,zb,unary,ze,zd,za,zo,zr,zh,zf,zg,zp,Cp.isFull,isNil,zq,simprocAttr,SQX,V.cells,xa8,hcv,hdv,hev,hl32,hix0,l7,l0,ldE,zn (hRA _),zn (hRB _),zn (hAc _ _),zn (hFo _ _),n4,f4,f6,x7K,x7J (hEa _ _),s1,hlb,hx1,s2,hx2,s3,and_self,implies_true,true_and,List.take_length,List.take_succ_cons,List.take_zero]
  exact ⟨fin _,(Keep.app h _ _).trans (Keep.set _ _ _)⟩
 ·rw [if_neg f6]
  simp only [SQ,SQB,AOp.opds,step,Opd.get,bin,zzc,IntKind.signed,zj,zb,unary,ze,zd,za,zo,zr,zh,zf,zg,zp,Cp.isFull,isNil,zq,simprocAttr,SQX,V.cells,xa8,hcv,hdv,hev,hl32,hix0,l7,l0,ldE,zn (hRA _),zn (hRB _),zn (hAc _ _),zn (hFo _ _),n4,f4,f6,x7K,x7J (hEi _ _),s1,hlb,hx1,s2,hx2,s3,and_self,implies_true,true_and,List.take_length,List.take_succ_cons,List.take_zero]
  exact ⟨fin _,(Keep.app h _ _).trans (Keep.set _ _ _)⟩
end
section
abbrev tyX:TypeId:=36
theorem xaD {base b z:Nat} {t0 tz:TypeId} {h:Heap} {cs zc:List V} {l:List Ent} (e:Ent) (hb:h[b]?=some (.box t0 cs)) (hz:h[z]?=some (.box tz zc)) (hzc:zc.length=18) (hcs:32<cs.length) (hbb:base≤b) (hbz:b≠z) (hlim:l.length<2147483648) :
  ∃ lv h3 h4 h5 own',x1D base h tyX 18 (.slc .lit 18 []) (l.map rowE)=some (lv,h3)∧x0y base h3 1 (.ptr b 32) lv=some h4∧x0y base h4 18 (.ptr z 0) (.agg (rowE e))=some h5∧zl h5 (some 18) (.ptr z 0)=some (.agg (rowE e))∧h5[b]?=some (.box t0 (cs.set 32 lv))∧LVo tyX h5 lv own' l∧h.length≤h5.length∧(∀ c,c<h.length→c≠b→c≠z→h5[c]?=h[c]?)∧∀ c,own'=some c→h.length≤c:=by
 have lz:=get_lt' hz
 have lb:=get_lt' hb
 have key:∀ (ext:Heap) (lv:V),zm lv=true→∃ h4 h5,x0y base (h++ext) 1 (.ptr b 32) lv=some h4∧x0y base h4 18 (.ptr z 0) (.agg (rowE e))=some h5∧zl h5 (some 18) (.ptr z 0)=some (.agg (rowE e))∧h5[b]?=some (.box t0 (cs.set 32 lv))∧h5.length=(h++ext).length∧∀ c,c≠b→c≠z→h5[c]?=(h++ext)[c]?:=by
  intro ext lv hl
  have g3:(h++ext)[b]?=some (.box t0 cs):=by rw [List.getElem?_append_left lb];exact hb
  have s4:=xcD (base:=base) hl g3 hcs hbb
  have g4:((h++ext).set b (.box t0 (cs.set 32 lv)))[z]?=some (.box tz zc):=by
   rw [List.getElem?_set_ne hbz,List.getElem?_append_left lz];exact hz
  have s5:=xcB (base:=base) g4 (new:=rowE e) (by rw [hzc];rfl) (x6N e).2.1 ((x6N e).2.2 _)
  rw [hzc] at s5
  refine ⟨_,_,s4,s5,?_,?_,by simp,fun c c1 c3=>?_⟩
  ·rw [x2Y (by rw [List.getElem?_set_self (by simp;omega)])]
   rfl
  ·rw [List.getElem?_set_ne (fun q=>hbz q.symm),List.getElem?_set_self (by simp;omega)]
  ·rw [List.getElem?_set_ne (fun q=>c3 q.symm),List.getElem?_set_ne (fun q=>c1 q.symm)]
 cases l with
 | nil =>
  obtain ⟨h4,h5,k1,k2,k3,k4,k5,k6⟩:=key [] (.slc .lit 18 []) rfl
  rw [List.append_nil] at k1 k5 k6
  exact ⟨_,h,h4,h5,none,rfl,k1,k2,k3,k4,.inl ⟨rfl,rfl,rfl⟩,by omega,fun c _ c1 c2=>k6 c c1 c2,fun c hc=>by cases hc⟩
 | cons e2 l2 =>
  obtain ⟨h4,h5,k1,k2,k3,k4,k5,k6⟩:=key [.row tyX 18 0 ((e2::l2).map rowE)] (.hsl h.length 0 0 (e2::l2).length) rfl
  refine ⟨_,_,h4,h5,some h.length,?_,k1,k2,k3,k4,.inr ⟨h.length,0,(e2::l2).map rowE,rfl,rfl,?_,by simp,fun i hi=>by rw [List.getElem?_map,List.getElem?_eq_getElem hi];rfl⟩,by rw [k5];simp,fun c c0 c1 c2=>?_,fun c hc=>by injection hc with hc;omega⟩
  ·have hn:x5m 18 ((e2::l2).map rowE)=true:=by
    unfold x5m
    rw [List.all_eq_true]
    intro y hy
    obtain ⟨x,_,rfl⟩:=List.mem_map.1 hy
    rfl
   have hl:decide (l2.length+1≤lim)=true:=by
    rw [decide_eq_true_eq]
    rw [List.length_cons] at hlim
    unfold lim
    omega
   simp only [List.map_cons] at hn ⊢
   simp only [x1D,hn,hl,Cp.isFull,List.isEmpty_nil,Bool.true_or,Bool.and_self,if_true,List.nil_append,List.length_nil,Nat.zero_add,List.length_cons,List.length_map]
  ·rw [k6 _ (by omega) (by omega)]
   exact x3I
  ·rw [k6 c c1 c2,List.getElem?_append_left c0]
set_option maxHeartbeats 1000000 in
theorem xf9 {base:Nat} {h:Heap} {b:Nat} {own:Option Nat} {regs:Nat→Int} {e:Ent} {l:List Ent} (hbb:base≤b) (hW:WinO tyX h b own regs (e::l)) (hd:e.don=true) (hok:Arm e) (hr0:0≤e.ins.rd) (hr1:e.ins.rd<32) (hlen:l.length<2147483647):WpF S0 base x2H [.ptr b 0] h fun v h'=>v=.tup [.agg (rowE e),scb true]∧∃ own',WinO tyX h' b own' (retR regs e) l∧xbt h h' b own own':=by
 have hbl:b<h.length:=by obtain ⟨t,cs,lv,e1,_⟩:=hW;exact get_lt' e1
 have hMay:=fun base h=>xfG (base:=base) e.ins.op e.ins.rd e.ins.a e.ins.b e.ins.imm e.ins.aq e.ins.rl h
 have hRd:=fun base h=>xc6 (base:=base) e.ins.op h
 rw [xgf hok] at hRd
 rw [show mayI e.ins.op e.ins.rd e.ins.a e.ins.b e.ins.imm e.ins.aq e.ins.rl=true from hok.2] at hMay
 have hbad:=hok.1.1
 have hW1:WinO tyX (h++[.box 36 zerE]) b own regs (e::l):=hW.keep (Keep.app h _ none) (by simp) (.inr rfl)
 obtain ⟨t0,cs,lv,e1,e2,e3,e4⟩:=hW1
 have hl32:zl (h++[.box 36 zerE]) none (.ptr b 32)=some lv:=by rw [x2Y e1];exact e3
 rcases e4 with ⟨q,_⟩ | ⟨rr,ee,rows,rfl,rfl,f2,f3,f4⟩
 ·cases q
 have row0:rows[0]?=some (rowE e):=f4 0 (by simp)
 have hix:zi (h++[.box 36 zerE]) 18 0 (.hsl rr ee 0 (e::l).length)=some (.rptr rr ee 0 0):=x5I f2 (by simp) f3
 have l14:zl (h++[.box 36 zerE]) none (.rptr rr ee 0 14)=some (scb true):=by rw [x5R f2 row0 (by simp [rowE]),← hd];rfl
 have l11:zl (h++[.box 36 zerE]) none (.rptr rr ee 0 11)=some (sci 0):=by rw [x5R f2 row0 (by simp [rowE]),← hbad];rfl
 have l18:zl (h++[.box 36 zerE]) (some 18) (.rptr rr ee 0 0)=some (.agg (rowE e)):=by rw [x5R f2 row0 (by simp [rowE])];rfl
 have c7:zb (some 7) (rowE e) 1=some (ins e.ins.op e.ins.rd e.ins.a e.ins.b e.ins.imm e.ins.aq e.ins.rl):=rfl
 have c1:zb none (rowE e) 1=some (sci e.ins.op):=rfl
 have c2:zb none (rowE e) 2=some (sci e.ins.rd):=rfl
 have c12:zb none (rowE e) 12=some (sci e.val):=rfl
 have c18:zb (some 18) (rowE e) 0=some (.agg (rowE e)):=rfl
 have hg1:(rowE e).all x1h=true:=rfl
 have hg2:(rowE e).length=18:=rfl
 have cn:¬ ((l.length+1:Nat):Int)=0:=by omega
 have cl:32<cs.length:=(List.getElem?_eq_some_iff.1 e3).1
 have hne:b≠h.length:=by omega
 have rw0:¬ e.ins.rd<0:=by omega
 have nat32:e.ins.rd.toNat<32:=by omega
 have hbr:b≠rr:=fun q=>by subst q;rw [e1] at f2;cases f2
 have hsr:∀ hh:Heap,hh[rr]?=some (.row tyX 18 ee rows)→zg hh 18 (.hsl rr ee 0 (e::l).length) 1 none none=some (.hsl rr ee 1 l.length,hh)∧x30 18 hh (.hsl rr ee 1 l.length)=some (l.map rowE):=by
  intro hh hg
  have f3':1+l.length≤rows.length:=by rw [List.length_cons] at f3;omega
  constructor
  ·simp only [zg,hg,Option.getD_none]
   rw [if_pos ⟨by simp,by simp⟩,if_pos ⟨trivial,trivial⟩]
   rfl
  ·simp only [x30,x5u,rowAt,hg,if_true]
   rw [if_pos ⟨trivial,f3'⟩]
   congr 1
   apply List.ext_getElem?
   intro k
   by_cases hk:k<l.length
   ·rw [List.getElem?_take_of_lt hk,List.getElem?_drop,Nat.add_comm,f4 (k+1) (by simp;omega)]
    simp [hk]
   ·rw [List.getElem?_eq_none (by simp;omega),List.getElem?_eq_none (by simp;omega)]
 simp only [List.length_cons] at hix hl32 hsr
 by_cases hz:e.ins.rd=0
 ·obtain ⟨lv2,h3,h4,h5,own',d1,d2,d3,d4,d5,d6,d7,d8,d9⟩:=xaD (base:=base) (l:=l) e e1 x3I (show zerE.length=18 from rfl) cl hbb hne (by omega)
  obtain ⟨r1,r2⟩:=hsr _ f2
  first | refine zu (A:=x0e) rfl rfl rfl rfl ?_ | refine zB (A:=x0e) rfl rfl rfl rfl ?_
  simp only [x0e,oD,cD,τ,φ,ι]
  simp only [SQ,SQB,zm,AOp.opds,step,Opd.get,zk,bin,zzc,IntKind.signed,zj,unary,ze,zd,za,zo,zr,zh,zf,zp,Cp.isFull,isNil,zq,simprocAttr,SQX,V.cells,hix,l14,l11,l18,ldE,c7,c1,c2,c12,c18,cn,hg1,hg2,zn (hMay _ _),zn (hRd _ _),eq_true hz,hl32,x0J,zv,List.all_nil,r1,r2,d1,d2,d3,d4,zk,List.length_cons,List.take_length,List.take_succ_cons,List.take_zero]
  refine ⟨own',⟨t0,_,_,d5,fun k hk=>?_,by simp [cl],d6⟩,?_,fun c c1 c2 c3=>?_,fun c hc h1=>?_⟩
  ·rw [List.getElem?_set_ne (by omega),e2 k hk]
   unfold retR
   rw [if_neg (by simp [hz])]
  ·rw [List.length_append] at d7;omega
  ·rw [d8 c (by simp;omega) c2 (by omega),List.getElem?_append_left c1]
  ·have:=d9 c hc
   rw [List.length_append] at this
   omega
 ·have s1:=xiH (base:=base) (x:=.int .i64 e.val) e1 (off:=e.ins.rd.toNat) (by omega)
  have gb:((h++[Obj.box 36 zerE]).set b (Obj.box t0 (cs.set e.ins.rd.toNat (sci e.val))))[b]?=some (.box t0 (cs.set e.ins.rd.toNat (sci e.val))):=List.getElem?_set_self (get_lt' e1)
  have gr:((h++[Obj.box 36 zerE]).set b (Obj.box t0 (cs.set e.ins.rd.toNat (sci e.val))))[rr]?=some (.row tyX 18 ee rows):=by rw [List.getElem?_set_ne hbr];exact f2
  have gz:((h++[Obj.box 36 zerE]).set b (Obj.box t0 (cs.set e.ins.rd.toNat (sci e.val))))[h.length]?=some (.box 36 zerE):=by rw [List.getElem?_set_ne hne];exact x3I
  have g32:zl ((h++[Obj.box 36 zerE]).set b (Obj.box t0 (cs.set e.ins.rd.toNat (sci e.val)))) none (.ptr b 32)=some (.hsl rr ee 0 (l.length+1)):=by
   rw [x2Y gb]
   show (cs.set _ _)[32]?=_
   rw [List.getElem?_set_ne (by omega)]
   exact e3
  obtain ⟨lv2,h3,h4,h5,own',d1,d2,d3,d4,d5,d6,d7,d8,d9⟩:=xaD (base:=base) (l:=l) e gb gz (show zerE.length=18 from rfl) (by rw [List.length_set];exact cl) hbb hne (by omega)
  obtain ⟨r1,r2⟩:=hsr _ gr
  first | refine zu (A:=x0e) rfl rfl rfl rfl ?_ | refine zB (A:=x0e) rfl rfl rfl rfl ?_
  simp only [x0e,oD,cD,τ,φ,ι]
  simp only [SQ,SQB,zm,AOp.opds,step,Opd.get,zk,bin,zzc,IntKind.signed,zj,unary,ze,zd,za,zo,zr,zh,zf,zp,Cp.isFull,isNil,zq,simprocAttr,SQX,V.cells,hix,l14,l11,l18,ldE,c7,c1,c2,c12,c18,cn,hg1,hg2,zn (hMay _ _),zn (hRd _ _),hz,hr0,rw0,nat32,hr1,Nat.mul_one,hl32,s1,g32,x0J,zv,List.all_nil,r1,r2,d1,d2,d3,d4,zk,List.length_cons,List.take_length,List.take_succ_cons,List.take_zero]
  refine ⟨own',⟨t0,_,_,d5,fun k hk=>?_,by simp [cl],d6⟩,?_,fun c c1 c2 c3=>?_,fun c hc h1=>?_⟩
  ·rw [List.getElem?_set_ne (by omega),List.getElem?_set]
   unfold retR
   by_cases q:e.ins.rd.toNat=k
   ·rw [if_pos q,if_pos (by omega),if_pos ⟨hz,q⟩]
   ·rw [if_neg q,if_neg (fun w=>q w.2),e2 k hk]
  ·rw [List.length_set,List.length_append] at d7;omega
  ·rw [d8 c (by simp;omega) c2 (by omega),List.getElem?_set_ne (fun q=>c2 q.symm),List.getElem?_append_left c1]
  ·have:=d9 c hc
   rw [List.length_set,List.length_append] at this
   omega
end
section
def finD (regs:Nat→Int) (l:List Ent):List Ent:=l.foldl (fun d e=>d++[e.done (valW regs d d.length e.ins)]) []
theorem x6g (regs:Nat→Int) (l:List Ent) (e:Ent):finD regs (l++[e])=finD regs l++[e.done (valW regs (finD regs l) (finD regs l).length e.ins)]:=by
 unfold finD
 rw [List.foldl_append]
 rfl
theorem x9X {P:List Ent→Prop} (h0:P []) (h1:∀ l e,P l→P (l++[e])) (l:List Ent):P l:=by
 rw [← List.reverse_reverse l]
 induction l.reverse with
 | nil=>exact h0
 | cons e r ih=>rw [List.reverse_cons];exact h1 _ _ ih
theorem x2o (regs:Nat→Int) (l:List Ent):(finD regs l).length=l.length:=by
 induction l using x9X with
 | h0=>rfl
 | h1 l e ih=>rw [x6g,List.length_append,List.length_append,ih];rfl
theorem xbb (regs:Nat→Int) (l:List Ent) (i:Nat):(finD regs l).take i=finD regs (l.take i):=by
 induction l using x9X generalizing i with
 | h0=>simp [finD]
 | h1 l e ih =>
  rw [x6g]
  by_cases h:i≤l.length
  ·rw [List.take_append_of_le_length (by rw [x2o];exact h),List.take_append_of_le_length h,ih]
  ·rw [List.take_of_length_le (by simp [x2o];omega),List.take_of_length_le (by simp;omega),x6g]
theorem xcJ (regs:Nat→Int) (l:List Ent) (i:Nat) (r:Int):rgW regs (l.take i) i r=rgW regs l i r:=by
 unfold rgW
 rw [List.take_take,Nat.min_self]
theorem x8m (regs:Nat→Int) (l:List Ent) (i:Nat) (x:Ins):valW regs (l.take i) i x=valW regs l i x:=by
 unfold valW
 rw [xcJ,xcJ]
theorem x6t (regs:Nat→Int) (l:List Ent) {i:Nat} (hi:i<l.length):(finD regs l)[i]?=some (l[i].done (valW regs (finD regs l) i l[i].ins)):=by
 have h1:(finD regs (l.take (i+1)))[i]?=some (l[i].done (valW regs (finD regs (l.take i)) (finD regs (l.take i)).length l[i].ins)):=by
  rw [List.take_succ_eq_append_getElem hi,x6g,List.getElem?_append_right (by rw [x2o,List.length_take];omega),x2o]
  rw [List.length_take,Nat.min_eq_left (by omega),Nat.sub_self]
  rfl
 rw [← xbb,List.getElem?_take_of_lt (by omega)] at h1
 rw [h1,x2o,List.length_take,Nat.min_eq_left (by omega),← xbb,x8m]
def Mix (regs:Nat→Int) (l0 l:List Ent):Prop:=l.length=l0.length∧∀ i (hi:i<l0.length),l[i]?=some l0[i]∨l[i]?=(finD regs l0)[i]?
def Wait (l0:List Ent):Prop:=∀ e∈l0,Arm e∧e.rdy=false∧e.don=false
theorem xae {regs:Nat→Int} {l0 l:List Ent} (hm:Mix regs l0 l) {i:Nat} (hi:i<l0.length) (hl:i<l.length):l[i].ins=l0[i].ins∧(l[i]=l0[i]∨l[i]=l0[i].done (valW regs (finD regs l0) i l0[i].ins)):=by
 rcases hm.2 i hi with h | h
 ·rw [List.getElem?_eq_getElem hl] at h
  injection h with h
  exact ⟨by rw [h],.inl h⟩
 ·rw [List.getElem?_eq_getElem hl,x6t regs l0 hi] at h
  injection h with h
  exact ⟨by rw [h];rfl,.inr h⟩
theorem xls {regs:Nat→Int} {l0 l:List Ent} (hw:Wait l0) (hm:Mix regs l0 l) (r:Int):∀ i,i≤l0.length→(rgS regs r (l.take i).reverse).2=true→rgS regs r (l.take i).reverse=rgS regs r ((finD regs l0).take i).reverse
 | 0,_,_=>by rw [List.take_zero,List.take_zero]
 | i+1,hi,hk=>by
  have hl:i<l.length:=by rw [hm.1];exact hi
  have hf:i<(finD regs l0).length:=by rw [x2o];exact hi
  have hg:=x6t regs l0 (i:=i) hi
  rw [List.getElem?_eq_getElem hf] at hg
  injection hg with hg
  rw [x8b hl,x6r] at hk ⊢
  rw [x8b hf,x6r]
  obtain ⟨m1,m2⟩:=xae hm hi hl
  have hwr:(finD regs l0)[i].wr r=l[i].wr r:=by
   unfold Ent.wr
   rw [m1,hg]
   rfl
  rw [hwr]
  cases hq:l[i].wr r with
  | false =>
   rw [hq] at hk
   simp only [Bool.false_eq_true,if_false] at hk ⊢
   exact xls hw hm r i (by omega) hk
  | true =>
   rw [hq] at hk
   rcases m2 with m2 | m2
   ·rw [m2,(hw _ (List.getElem_mem hi)).2.1] at hk
    simp at hk
   ·rw [m2,hg]
    simp only [if_true]
theorem xlr {regs:Nat→Int} {l0 l:List Ent} (hw:Wait l0) (hm:Mix regs l0 l) (r:Int) {i:Nat} (hi:i≤l0.length) (hk:(rgW regs l i r).2=true):rgW regs l i r=rgW regs (finD regs l0) i r:=by
 unfold rgW at hk ⊢
 split
 ·rfl
 ·rename_i h
  rw [if_neg h] at hk
  exact xls hw hm r i hi hk
theorem xlP {e:Ent} (h:Arm e):fA (x0a e.ins.op)=true:=by
 rcases x6s e.ins.op h.1.2.1 h.1.2.2.1 with q | q | q | q<;>rw [q]<;>rfl
theorem xlO {e:Ent} (h6:x0a e.ins.op=6):fB (x0a e.ins.op)=true:=by
 rw [h6];rfl
theorem xfB {regs:Nat→Int} {l0 l:List Ent} (hw:Wait l0) (hm:Mix regs l0 l) {i:Nat} (hi:i<l0.length) (hk:knW regs l i l0[i].ins=true):valW regs l i l0[i].ins=valW regs (finD regs l0) i l0[i].ins:=by
 have arm:=(hw _ (List.getElem_mem hi)).1
 unfold knW at hk
 rw [arm.2,xlP arm,Bool.and_eq_true] at hk
 simp only [Bool.true_and,Bool.not_true,Bool.or_false] at hk
 unfold valW
 rw [xlr hw hm _ (by omega) hk.1]
 by_cases h6:x0a l0[i].ins.op=6
 ·rw [if_pos h6,if_pos h6]
  rw [xlO h6] at hk
  simp only [Bool.not_true,Bool.or_false] at hk
  rw [xlr hw hm _ (by omega) hk.2]
 ·rw [if_neg h6,if_neg h6]
theorem xaf {regs:Nat→Int} {l0 l:List Ent} (hw:Wait l0) (hm:Mix regs l0 l) (i:Nat):Mix regs l0 (x8O regs l i):=by
 unfold x8O
 split
 ·rename_i hi
  split
  ·rename_i hc
   have hi0:i<l0.length:=by rw [← hm.1];exact hi
   obtain ⟨m1,m2⟩:=xae hm hi0 hi
   unfold canW at hc
   rw [dif_pos hi,Bool.and_eq_true,m1] at hc
   have ho:l[i]=l0[i]:=by
    rcases m2 with m2 | m2
    ·exact m2
    ·rw [m2] at hc
     simp [Ent.done] at hc
   refine ⟨by rw [List.length_set];exact hm.1,fun j hj=>?_⟩
   by_cases e:i=j
   ·subst e
    right
    rw [List.getElem?_set_self hi,x6t regs l0 hi0,ho,xfB hw hm hi0 hc.2]
   ·rw [List.getElem?_set_ne e]
    exact hm.2 j hj
  ·exact hm
 ·exact hm
theorem xhD (regs:Nat→Int) (l0:List Ent):Mix regs l0 l0:=⟨rfl,fun _ hi=>.inl (List.getElem?_eq_getElem hi)⟩
theorem xhE {regs:Nat→Int} {l0 l:List Ent} (hw:Wait l0) (hm:Mix regs l0 l) {i:Nat} (hi:i<l0.length) (ht:l.take i=(finD regs l0).take i):(x8O regs l i).take (i+1)=(finD regs l0).take (i+1):=by
 have hl:i<l.length:=by rw [hm.1];exact hi
 have hf:i<(finD regs l0).length:=by rw [x2o];exact hi
 have hg:=x6t regs l0 (i:=i) hi
 rw [List.getElem?_eq_getElem hf] at hg
 injection hg with hg
 have known:∀ r j,j≤l0.length→(rgS regs r ((finD regs l0).take j).reverse).2=true:=by
  intro r j hj
  induction j with
  | zero=>rfl
  | succ j ih =>
   have hf:j<(finD regs l0).length:=by rw [x2o];exact hj
   have hg:=x6t regs l0 (i:=j) hj
   rw [List.getElem?_eq_getElem hf] at hg
   injection hg with hg
   rw [x8b hf,x6r,hg]
   split
   ·rfl
   ·exact ih (by omega)
 have kn:knW regs l i l[i].ins=true:=by
  have kw:∀ r,(rgW regs l i r).2=true:=fun r=>by
   unfold rgW
   split
   ·rfl
   ·rw [ht];exact known r i (by omega)
  unfold knW
  rw [kw,kw]
  rfl
 obtain ⟨m1,m2⟩:=xae hm hi hl
 have hgo:(x8O regs l i).take i=(finD regs l0).take i∧(x8O regs l i)[i]?=some (finD regs l0)[i]:=by
  rcases m2 with m2 | m2
  ·have hc:canW regs l i=true:=by
    unfold canW
    rw [dif_pos hl,kn,m2,(hw _ (List.getElem_mem hi)).2.2]
    rfl
   unfold x8O
   rw [dif_pos hl,if_pos hc]
   refine ⟨by rw [List.take_set_of_le (Nat.le_refl _)];exact ht,?_⟩
   rw [m1] at kn
   rw [List.getElem?_set_self hl,m2,hg,xfB hw hm hi kn]
  ·have hc:¬ canW regs l i=true:=by
    unfold canW
    rw [dif_pos hl,m2]
    simp [Ent.done]
   unfold x8O
   rw [dif_pos hl,if_neg hc]
   exact ⟨ht,by rw [List.getElem?_eq_getElem hl,m2,hg]⟩
 have hlen:(x8O regs l i).length=l0.length:=(xaf hw hm i).1
 rw [List.take_succ_eq_append_getElem (by rw [hlen];exact hi),List.take_succ_eq_append_getElem hf,hgo.1]
 have:=hgo.2
 rw [List.getElem?_eq_getElem (by rw [hlen];exact hi)] at this
 injection this with this
 rw [this]
def x5z (regs:Nat→Int) (l0:List Ent) (i:Nat):List Ent:=(finD regs l0).take i++l0.drop i
theorem xat (regs:Nat→Int) (l0:List Ent) {i:Nat} (hi:i≤l0.length):(x5z regs l0 i).length=l0.length:=by
 unfold x5z
 rw [List.length_append,List.length_take,x2o,List.length_drop]
 omega
theorem xdu (regs:Nat→Int) (l0:List Ent):x5z regs l0 l0.length=finD regs l0:=by
 unfold x5z
 rw [List.drop_length,List.append_nil,List.take_of_length_le (by rw [x2o];exact Nat.le_refl _)]
theorem xeS (regs:Nat→Int) (l0:List Ent) {i:Nat} (hi:i<l0.length):(x5z regs l0 i)[i]?=some l0[i]:=by
 unfold x5z
 rw [List.getElem?_append_right (by rw [List.length_take,x2o];omega),List.length_take,x2o,Nat.min_eq_left (by omega),Nat.sub_self,List.getElem?_drop,Nat.add_zero,List.getElem?_eq_getElem hi]
theorem xdt (regs:Nat→Int) (l0:List Ent) {i:Nat} (hi:i<l0.length):(x5z regs l0 i).set i (l0[i].done (valW regs (x5z regs l0 i) i l0[i].ins))=x5z regs l0 (i+1):=by
 have hf:i<(finD regs l0).length:=by rw [x2o];exact hi
 have hg:=x6t regs l0 (i:=i) hi
 rw [List.getElem?_eq_getElem hf] at hg
 injection hg with hg
 have hv:valW regs (x5z regs l0 i) i l0[i].ins=valW regs (finD regs l0) i l0[i].ins:=by
  rw [← x8m regs (x5z regs l0 i),← x8m regs (finD regs l0)]
  congr 1
  unfold x5z
  rw [List.take_append_of_le_length (by rw [List.length_take,x2o];omega),List.take_take,Nat.min_self]
 have hlt:((finD regs l0).take i).length=i:=by rw [List.length_take,x2o];omega
 rw [hv,← hg]
 unfold x5z
 rw [List.set_append_right _ _ (by rw [hlt];exact Nat.le_refl _),hlt,Nat.sub_self,List.drop_eq_getElem_cons hi,List.set_cons_zero,List.take_succ_eq_append_getElem hf,List.append_assoc]
 rfl
end
end Go.Am
