/- The abstract machine and what is proved in it, part 7. -/
import Derived.Test.YtaflpfhmokcimaaGreatDoorAm6
set_option linter.unusedVariables false
set_option linter.unusedSimpArgs false
namespace Go.Am
section
def encT (op rd a b:Nat):Nat:=x0k op ||| F rd 0 5*128 ||| F a 0 5*32768 ||| F b 0 5*1048576
def encU (f:Int) (t m:Nat):Nat :=
 if f=1 then t ||| F m 0 20*4096
 else if f=2 then t ||| F m 20 1*2147483648 ||| F m 1 10*2097152 ||| F m 11 1*1048576 ||| F m 12 8*4096
 else if f=3 then t ||| F m 0 12*1048576
 else if f=4 then (t &&& 4294963327) ||| F m 12 1*2147483648 ||| F m 5 6*33554432 ||| F m 1 4*256 ||| F m 11 1*128
 else if f=5 then (t &&& 4294963327) ||| F m 5 7*33554432 ||| F m 0 5*128
 else if f=7 then t ||| F m 0 6*1048576
 else if f=8 then t ||| F m 0 5*1048576
 else if f=9 then t ||| F m 0 8*1048576
 else t
def encR (f:Int) (t m:Nat) (aq rl:Bool):Nat:=if rl then (if aq then encU f t m ||| 67108864 else encU f t m) ||| 33554432 else (if aq then encU f t m ||| 67108864 else encU f t m)
theorem xiM {a b:Nat} (ha:a<4294967296) (hb:b<4294967296):IntKind.u32.wrap (BitVec.ofInt IntKind.u32.bits (a:Int) ||| BitVec.ofInt IntKind.u32.bits (b:Int)).toNat=((a ||| b:Nat):Int):=xaH ha hb
theorem xfn {a:Nat} (ha:a<4294967296):IntKind.u32.wrap (BitVec.ofInt IntKind.u32.bits (a:Int) ||| BitVec.ofInt IntKind.u32.bits 67108864).toNat=((a ||| 67108864:Nat):Int):=xaH (b:=67108864) ha (by decide)
theorem xfm {a:Nat} (ha:a<4294967296):IntKind.u32.wrap (BitVec.ofInt IntKind.u32.bits (a:Int) ||| BitVec.ofInt IntKind.u32.bits 33554432).toNat=((a ||| 33554432:Nat):Int):=xaH (b:=33554432) ha (by decide)
theorem x3P {m a n k:Nat} (h:2 ^ n*k≤4294967296) (hk:0<k):(F m a n*k<4294967296)=True:=by
 have h1:=F_lt m a n
 have:=Nat.mul_lt_mul_of_pos_right h1 hk
 exact eq_true (by omega)
theorem x9J {a:Nat} (ha:a<4294967296):IntKind.u32.wrap (BitVec.ofInt IntKind.u32.bits (a:Int) &&& ~~~ BitVec.ofInt IntKind.u32.bits 3968).toNat=((a &&& 4294963327:Nat):Int):=by
 have e:(~~~ BitVec.ofInt IntKind.u32.bits 3968).toNat=4294963327:=by decide
 rw [BitVec.toNat_and,x6R,Nat.mod_eq_of_lt ha,e,x5j,Nat.mod_eq_of_lt (Nat.lt_of_le_of_lt Nat.and_le_left ha)]
theorem xh7:∀ op:Nat,op<88→x0k op<4294967296:=by decide
set_option maxHeartbeats 4000000 in
theorem xmH {base:Nat} (op:Nat) (rd a b i:Int) (aq rl:Bool) (h:Heap) (h1:1≤op) (h2:op<88):WpF S0 base x3X [ins op rd a b i aq rl] h fun v h'=>v=U32 (encR (x0a op) (encT op (uN rd) (uN a) (uN b)) (uN i) aq rl)∧h'=h:=by
 have hw:=fun base h=>xji (base:=base) op h h1 h2
 have hF:=fun base h=>xgb (base:=base) op h
 have hl:=xh7 op h2
 have grd:∀ base h,WpF S0 base x0c [.sc (.int .i64 rd),.sc (.int .i64 0),.sc (.int .i64 5),.sc (.int .i64 7)] h fun v h'=>v=U32 (F (uN rd) 0 5*128)∧h'=h:=fun base h=>x1R rd 0 5 7 h (by decide) (by decide) (by decide)
 have ga:∀ base h,WpF S0 base x0c [.sc (.int .i64 a),.sc (.int .i64 0),.sc (.int .i64 5),.sc (.int .i64 15)] h fun v h'=>v=U32 (F (uN a) 0 5*32768)∧h'=h:=fun base h=>x1R a 0 5 15 h (by decide) (by decide) (by decide)
 have gb:∀ base h,WpF S0 base x0c [.sc (.int .i64 b),.sc (.int .i64 0),.sc (.int .i64 5),.sc (.int .i64 20)] h fun v h'=>v=U32 (F (uN b) 0 5*1048576)∧h'=h:=fun base h=>x1R b 0 5 20 h (by decide) (by decide) (by decide)
 have m0:∀ base h,WpF S0 base x0c [.sc (.int .i64 i),.sc (.int .i64 0),.sc (.int .i64 20),.sc (.int .i64 12)] h fun v h'=>v=U32 (F (uN i) 0 20*4096)∧h'=h:=fun base h=>x1R i 0 20 12 h (by decide) (by decide) (by decide)
 have m1:∀ base h,WpF S0 base x0c [.sc (.int .i64 i),.sc (.int .i64 20),.sc (.int .i64 1),.sc (.int .i64 31)] h fun v h'=>v=U32 (F (uN i) 20 1*2147483648)∧h'=h:=fun base h=>x1R i 20 1 31 h (by decide) (by decide) (by decide)
 have m2:∀ base h,WpF S0 base x0c [.sc (.int .i64 i),.sc (.int .i64 1),.sc (.int .i64 10),.sc (.int .i64 21)] h fun v h'=>v=U32 (F (uN i) 1 10*2097152)∧h'=h:=fun base h=>x1R i 1 10 21 h (by decide) (by decide) (by decide)
 have m3:∀ base h,WpF S0 base x0c [.sc (.int .i64 i),.sc (.int .i64 11),.sc (.int .i64 1),.sc (.int .i64 20)] h fun v h'=>v=U32 (F (uN i) 11 1*1048576)∧h'=h:=fun base h=>x1R i 11 1 20 h (by decide) (by decide) (by decide)
 have m4:∀ base h,WpF S0 base x0c [.sc (.int .i64 i),.sc (.int .i64 12),.sc (.int .i64 8),.sc (.int .i64 12)] h fun v h'=>v=U32 (F (uN i) 12 8*4096)∧h'=h:=fun base h=>x1R i 12 8 12 h (by decide) (by decide) (by decide)
 have m5:∀ base h,WpF S0 base x0c [.sc (.int .i64 i),.sc (.int .i64 0),.sc (.int .i64 12),.sc (.int .i64 20)] h fun v h'=>v=U32 (F (uN i) 0 12*1048576)∧h'=h:=fun base h=>x1R i 0 12 20 h (by decide) (by decide) (by decide)
 have m6:∀ base h,WpF S0 base x0c [.sc (.int .i64 i),.sc (.int .i64 12),.sc (.int .i64 1),.sc (.int .i64 31)] h fun v h'=>v=U32 (F (uN i) 12 1*2147483648)∧h'=h:=fun base h=>x1R i 12 1 31 h (by decide) (by decide) (by decide)
 have m7:∀ base h,WpF S0 base x0c [.sc (.int .i64 i),.sc (.int .i64 5),.sc (.int .i64 6),.sc (.int .i64 25)] h fun v h'=>v=U32 (F (uN i) 5 6*33554432)∧h'=h:=fun base h=>x1R i 5 6 25 h (by decide) (by decide) (by decide)
 have m8:∀ base h,WpF S0 base x0c [.sc (.int .i64 i),.sc (.int .i64 1),.sc (.int .i64 4),.sc (.int .i64 8)] h fun v h'=>v=U32 (F (uN i) 1 4*256)∧h'=h:=fun base h=>x1R i 1 4 8 h (by decide) (by decide) (by decide)
 have m9:∀ base h,WpF S0 base x0c [.sc (.int .i64 i),.sc (.int .i64 11),.sc (.int .i64 1),.sc (.int .i64 7)] h fun v h'=>v=U32 (F (uN i) 11 1*128)∧h'=h:=fun base h=>x1R i 11 1 7 h (by decide) (by decide) (by decide)
 have m10:∀ base h,WpF S0 base x0c [.sc (.int .i64 i),.sc (.int .i64 5),.sc (.int .i64 7),.sc (.int .i64 25)] h fun v h'=>v=U32 (F (uN i) 5 7*33554432)∧h'=h:=fun base h=>x1R i 5 7 25 h (by decide) (by decide) (by decide)
 have m11:∀ base h,WpF S0 base x0c [.sc (.int .i64 i),.sc (.int .i64 0),.sc (.int .i64 5),.sc (.int .i64 7)] h fun v h'=>v=U32 (F (uN i) 0 5*128)∧h'=h:=fun base h=>x1R i 0 5 7 h (by decide) (by decide) (by decide)
 have m12:∀ base h,WpF S0 base x0c [.sc (.int .i64 i),.sc (.int .i64 0),.sc (.int .i64 6),.sc (.int .i64 20)] h fun v h'=>v=U32 (F (uN i) 0 6*1048576)∧h'=h:=fun base h=>x1R i 0 6 20 h (by decide) (by decide) (by decide)
 have m13:∀ base h,WpF S0 base x0c [.sc (.int .i64 i),.sc (.int .i64 0),.sc (.int .i64 5),.sc (.int .i64 20)] h fun v h'=>v=U32 (F (uN i) 0 5*1048576)∧h'=h:=fun base h=>x1R i 0 5 20 h (by decide) (by decide) (by decide)
 have m14:∀ base h,WpF S0 base x0c [.sc (.int .i64 i),.sc (.int .i64 0),.sc (.int .i64 8),.sc (.int .i64 20)] h fun v h'=>v=U32 (F (uN i) 0 8*1048576)∧h'=h:=fun base h=>x1R i 0 8 20 h (by decide) (by decide) (by decide)
 have mm:∀ base h,WpF S0 base x0c [.sc (.int .i64 (-1)),.sc (.int .i64 0),.sc (.int .i64 5),.sc (.int .i64 7)] h fun v h'=>v=.sc (.int .u32 3968)∧h'=h:=fun base h=>x1R (-1) 0 5 7 h (by decide) (by decide) (by decide)
 unfold encR encU encT
 generalize x0a op=f at *
 generalize x0k op=t at *
 have u0:(t ||| (F (uN rd) 0 5*128))<4294967296:=Nat.or_lt_two_pow (n:=32) hl (of_eq_true (x3P (m:=(uN rd)) (a:=0) (by decide) (by decide)))
 have u1:((t ||| (F (uN rd) 0 5*128)) ||| (F (uN a) 0 5*32768))<4294967296:=Nat.or_lt_two_pow (n:=32) u0 (of_eq_true (x3P (m:=(uN a)) (a:=0) (by decide) (by decide)))
 have u2:(((t ||| (F (uN rd) 0 5*128)) ||| (F (uN a) 0 5*32768)) ||| (F (uN b) 0 5*1048576))<4294967296:=Nat.or_lt_two_pow (n:=32) u1 (of_eq_true (x3P (m:=(uN b)) (a:=0) (by decide) (by decide)))
 have u3:((((t ||| (F (uN rd) 0 5*128)) ||| (F (uN a) 0 5*32768)) ||| (F (uN b) 0 5*1048576)) ||| (F (uN i) 0 20*4096))<4294967296:=Nat.or_lt_two_pow (n:=32) u2 (of_eq_true (x3P (m:=(uN i)) (a:=0) (by decide) (by decide)))
 have u4:((((t ||| (F (uN rd) 0 5*128)) ||| (F (uN a) 0 5*32768)) ||| (F (uN b) 0 5*1048576)) ||| (F (uN i) 20 1*2147483648))<4294967296:=Nat.or_lt_two_pow (n:=32) u2 (of_eq_true (x3P (m:=(uN i)) (a:=20) (by decide) (by decide)))
 have u5:(((((t ||| (F (uN rd) 0 5*128)) ||| (F (uN a) 0 5*32768)) ||| (F (uN b) 0 5*1048576)) ||| (F (uN i) 20 1*2147483648)) ||| (F (uN i) 1 10*2097152))<4294967296:=Nat.or_lt_two_pow (n:=32) u4 (of_eq_true (x3P (m:=(uN i)) (a:=1) (by decide) (by decide)))
 have u6:((((((t ||| (F (uN rd) 0 5*128)) ||| (F (uN a) 0 5*32768)) ||| (F (uN b) 0 5*1048576)) ||| (F (uN i) 20 1*2147483648)) ||| (F (uN i) 1 10*2097152)) ||| (F (uN i) 11 1*1048576))<4294967296:=Nat.or_lt_two_pow (n:=32) u5 (of_eq_true (x3P (m:=(uN i)) (a:=11) (by decide) (by decide)))
 have u7:(((((((t ||| (F (uN rd) 0 5*128)) ||| (F (uN a) 0 5*32768)) ||| (F (uN b) 0 5*1048576)) ||| (F (uN i) 20 1*2147483648)) ||| (F (uN i) 1 10*2097152)) ||| (F (uN i) 11 1*1048576)) ||| (F (uN i) 12 8*4096))<4294967296:=Nat.or_lt_two_pow (n:=32) u6 (of_eq_true (x3P (m:=(uN i)) (a:=12) (by decide) (by decide)))
 have u8:((((t ||| (F (uN rd) 0 5*128)) ||| (F (uN a) 0 5*32768)) ||| (F (uN b) 0 5*1048576)) ||| (F (uN i) 0 12*1048576))<4294967296:=Nat.or_lt_two_pow (n:=32) u2 (of_eq_true (x3P (m:=(uN i)) (a:=0) (by decide) (by decide)))
 have u9:((((t ||| (F (uN rd) 0 5*128)) ||| (F (uN a) 0 5*32768)) ||| (F (uN b) 0 5*1048576)) &&& 4294963327)<4294967296:=Nat.lt_of_le_of_lt Nat.and_le_left u2
 have u10:(((((t ||| (F (uN rd) 0 5*128)) ||| (F (uN a) 0 5*32768)) ||| (F (uN b) 0 5*1048576)) &&& 4294963327) ||| (F (uN i) 12 1*2147483648))<4294967296:=Nat.or_lt_two_pow (n:=32) u9 (of_eq_true (x3P (m:=(uN i)) (a:=12) (by decide) (by decide)))
 have u11:((((((t ||| (F (uN rd) 0 5*128)) ||| (F (uN a) 0 5*32768)) ||| (F (uN b) 0 5*1048576)) &&& 4294963327) ||| (F (uN i) 12 1*2147483648)) ||| (F (uN i) 5 6*33554432))<4294967296:=Nat.or_lt_two_pow (n:=32) u10 (of_eq_true (x3P (m:=(uN i)) (a:=5) (by decide) (by decide)))
 have u12:(((((((t ||| (F (uN rd) 0 5*128)) ||| (F (uN a) 0 5*32768)) ||| (F (uN b) 0 5*1048576)) &&& 4294963327) ||| (F (uN i) 12 1*2147483648)) ||| (F (uN i) 5 6*33554432)) ||| (F (uN i) 1 4*256))<4294967296:=Nat.or_lt_two_pow (n:=32) u11 (of_eq_true (x3P (m:=(uN i)) (a:=1) (by decide) (by decide)))
 have u13:((((((((t ||| (F (uN rd) 0 5*128)) ||| (F (uN a) 0 5*32768)) ||| (F (uN b) 0 5*1048576)) &&& 4294963327) ||| (F (uN i) 12 1*2147483648)) ||| (F (uN i) 5 6*33554432)) ||| (F (uN i) 1 4*256)) ||| (F (uN i) 11 1*128))<4294967296:=Nat.or_lt_two_pow (n:=32) u12 (of_eq_true (x3P (m:=(uN i)) (a:=11) (by decide) (by decide)))
 have u14:((((t ||| (F (uN rd) 0 5*128)) ||| (F (uN a) 0 5*32768)) ||| (F (uN b) 0 5*1048576)) &&& 4294963327)<4294967296:=Nat.lt_of_le_of_lt Nat.and_le_left u2
 have u15:(((((t ||| (F (uN rd) 0 5*128)) ||| (F (uN a) 0 5*32768)) ||| (F (uN b) 0 5*1048576)) &&& 4294963327) ||| (F (uN i) 5 7*33554432))<4294967296:=Nat.or_lt_two_pow (n:=32) u14 (of_eq_true (x3P (m:=(uN i)) (a:=5) (by decide) (by decide)))
 have u16:((((((t ||| (F (uN rd) 0 5*128)) ||| (F (uN a) 0 5*32768)) ||| (F (uN b) 0 5*1048576)) &&& 4294963327) ||| (F (uN i) 5 7*33554432)) ||| (F (uN i) 0 5*128))<4294967296:=Nat.or_lt_two_pow (n:=32) u15 (of_eq_true (x3P (m:=(uN i)) (a:=0) (by decide) (by decide)))
 have u17:((((t ||| (F (uN rd) 0 5*128)) ||| (F (uN a) 0 5*32768)) ||| (F (uN b) 0 5*1048576)) ||| (F (uN i) 0 6*1048576))<4294967296:=Nat.or_lt_two_pow (n:=32) u2 (of_eq_true (x3P (m:=(uN i)) (a:=0) (by decide) (by decide)))
 have u18:((((t ||| (F (uN rd) 0 5*128)) ||| (F (uN a) 0 5*32768)) ||| (F (uN b) 0 5*1048576)) ||| (F (uN i) 0 5*1048576))<4294967296:=Nat.or_lt_two_pow (n:=32) u2 (of_eq_true (x3P (m:=(uN i)) (a:=0) (by decide) (by decide)))
 have u19:((((t ||| (F (uN rd) 0 5*128)) ||| (F (uN a) 0 5*32768)) ||| (F (uN b) 0 5*1048576)) ||| (F (uN i) 0 8*1048576))<4294967296:=Nat.or_lt_two_pow (n:=32) u2 (of_eq_true (x3P (m:=(uN i)) (a:=0) (by decide) (by decide)))
 have u20:((((t ||| (F (uN rd) 0 5*128)) ||| (F (uN a) 0 5*32768)) ||| (F (uN b) 0 5*1048576)) ||| 67108864)<4294967296:=Nat.or_lt_two_pow (n:=32) u2 (by decide)
 have u21:(((((t ||| (F (uN rd) 0 5*128)) ||| (F (uN a) 0 5*32768)) ||| (F (uN b) 0 5*1048576)) ||| (F (uN i) 0 20*4096)) ||| 67108864)<4294967296:=Nat.or_lt_two_pow (n:=32) u3 (by decide)
 have u22:((((((((t ||| (F (uN rd) 0 5*128)) ||| (F (uN a) 0 5*32768)) ||| (F (uN b) 0 5*1048576)) ||| (F (uN i) 20 1*2147483648)) ||| (F (uN i) 1 10*2097152)) ||| (F (uN i) 11 1*1048576)) ||| (F (uN i) 12 8*4096)) ||| 67108864)<4294967296:=Nat.or_lt_two_pow (n:=32) u7 (by decide)
 have u23:(((((t ||| (F (uN rd) 0 5*128)) ||| (F (uN a) 0 5*32768)) ||| (F (uN b) 0 5*1048576)) ||| (F (uN i) 0 12*1048576)) ||| 67108864)<4294967296:=Nat.or_lt_two_pow (n:=32) u8 (by decide)
 have u24:(((((((((t ||| (F (uN rd) 0 5*128)) ||| (F (uN a) 0 5*32768)) ||| (F (uN b) 0 5*1048576)) &&& 4294963327) ||| (F (uN i) 12 1*2147483648)) ||| (F (uN i) 5 6*33554432)) ||| (F (uN i) 1 4*256)) ||| (F (uN i) 11 1*128)) ||| 67108864)<4294967296:=Nat.or_lt_two_pow (n:=32) u13 (by decide)
 have u25:(((((((t ||| (F (uN rd) 0 5*128)) ||| (F (uN a) 0 5*32768)) ||| (F (uN b) 0 5*1048576)) &&& 4294963327) ||| (F (uN i) 5 7*33554432)) ||| (F (uN i) 0 5*128)) ||| 67108864)<4294967296:=Nat.or_lt_two_pow (n:=32) u16 (by decide)
 have u26:(((((t ||| (F (uN rd) 0 5*128)) ||| (F (uN a) 0 5*32768)) ||| (F (uN b) 0 5*1048576)) ||| (F (uN i) 0 6*1048576)) ||| 67108864)<4294967296:=Nat.or_lt_two_pow (n:=32) u17 (by decide)
 have u27:(((((t ||| (F (uN rd) 0 5*128)) ||| (F (uN a) 0 5*32768)) ||| (F (uN b) 0 5*1048576)) ||| (F (uN i) 0 5*1048576)) ||| 67108864)<4294967296:=Nat.or_lt_two_pow (n:=32) u18 (by decide)
 have u28:(((((t ||| (F (uN rd) 0 5*128)) ||| (F (uN a) 0 5*32768)) ||| (F (uN b) 0 5*1048576)) ||| (F (uN i) 0 8*1048576)) ||| 67108864)<4294967296:=Nat.or_lt_two_pow (n:=32) u19 (by decide)
 first | refine zu (A:=x0P) rfl rfl rfl rfl ?_ | refine zB (A:=x0P) rfl rfl rfl rfl ?_
 simp only [x0P,oD,cD,τ,φ,ι]
 (simp only [SQ,zm,AOp.opds,step,Opd.get,zk,bin,zzc,IntKind.signed,zi,zj,zl,zb,unary,ze,zd,za,zo,zr,zh,zf,zg,zp,Cp.isFull,isNil,zq,simprocAttr,SQX,V.cells,zn (hw _ _),zn (hF _ _),hl,xiM,xfn,xfm,x3P,x9J,u0,u1,u2,u3,u4,u5,u6,u7,u8,u9,u10,u11,u12,u13,u14,u15,u16,u17,u18,u19,u20,u21,u22,u23,u24,u25,u26,u27,u28,zn (grd _ _),zn (ga _ _),zn (gb _ _),zn (m0 _ _),zn (m1 _ _),zn (m2 _ _),zn (m3 _ _),zn (m4 _ _),zn (m5 _ _),zn (m6 _ _),zn (m7 _ _),zn (m8 _ _),zn (m9 _ _),zn (m10 _ _),zn (m11 _ _),zn (m12 _ _),zn (m13 _ _),zn (m14 _ _),zn (mm _ _)];repeat' ((first | refine x0G ?_ ?_ | refine x0u ?_ ?_ | refine x0v ?_ ?_)<;>(intro hb;simp only [SQ,zm,AOp.opds,step,Opd.get,zk,bin,zzc,IntKind.signed,zi,zj,zl,zb,unary,ze,zd,za,zo,zr,zh,zf,zg,zp,Cp.isFull,isNil,zq,simprocAttr,SQX,V.cells,hb,zn (hw _ _),zn (hF _ _),hl,xiM,xfn,xfm,x3P,x9J,u0,u1,u2,u3,u4,u5,u6,u7,u8,u9,u10,u11,u12,u13,u14,u15,u16,u17,u18,u19,u20,u21,u22,u23,u24,u25,u26,u27,u28,zn (grd _ _),zn (ga _ _),zn (gb _ _),zn (m0 _ _),zn (m1 _ _),zn (m2 _ _),zn (m3 _ _),zn (m4 _ _),zn (m5 _ _),zn (m6 _ _),zn (m7 _ _),zn (m8 _ _),zn (m9 _ _),zn (m10 _ _),zn (m11 _ _),zn (m12 _ _),zn (m13 _ _),zn (m14 _ _),zn (mm _ _)])))
 all_goals clear hw hF mm u0 u1 u2 u3 u4 u5 u6 u7 u8 u9 u10 u11 u12 u13 u14 u15 u16 u17 u18 u19 u20 u21 u22 u23 u24 u25 u26 u27 u28 grd ga gb m0 m1 m2 m3 m4 m5 m6 m7 m8 m9 m10 m11 m12 m13 m14
 all_goals simp_all
end
section
abbrev x5v (a b c:Nat):V:=.agg [U32 a,U32 b,U32 c]
def x6l (o:Int):Nat×Nat :=
 if o=22∨o=31∨o=35∨o=45 then (0,0) else if o=36∨o=46 then (0,32) else if o=28∨o=32∨o=37∨o=47 then (1,0) else if o=23∨o=38 then (2,0) else if o=24∨o=39 then (3,0) else if o=25∨o=40 then (4,0) else if o=29∨o=33∨o=41∨o=48 then (5,0) else if o=30∨o=34∨o=42∨o=49 then (5,32) else if o=26∨o=43 then (6,0) else (7,0)
theorem x5Y (a b c:Int):x0q [.sc (.int .u32 0),.sc (.int .u32 0),.sc (.int .u32 0)] [(0,1,.sc (.int .u32 a)),(1,1,.sc (.int .u32 b)),(2,1,.sc (.int .u32 c))]=some [.sc (.int .u32 a),.sc (.int .u32 b),.sc (.int .u32 c)]:=rfl
theorem xi9 {base:Nat} (o:Int) (h:Heap):WpF S0 base xbV [.sc (.int .i64 o)] h fun v h'=>v=x5v 0 (x6l o).1 (x6l o).2∧h'=h:=by
 unfold x6l x5v
 first | refine zu (A:=x3v) rfl rfl rfl rfl ?_ | refine zB (A:=x3v) rfl rfl rfl rfl ?_
 simp only [x3v,oD,cD,τ,φ,ι]
 (simp only [SQ,zm,AOp.opds,step,Opd.get,zk,bin,zzc,IntKind.signed,zi,zj,zb,unary,ze,zd,za,zo,zr,zh,zf,zg,zp,Cp.isFull,isNil,zq,simprocAttr,SQX,V.cells,x0g,x5Y,x2O,x66,x1T,Nat.le_refl];repeat' ((first | refine x0G ?_ ?_ | refine x0u ?_ ?_ | refine x0v ?_ ?_)<;>(intro hb;simp only [SQ,zm,AOp.opds,step,Opd.get,zk,bin,zzc,IntKind.signed,zi,zj,zb,unary,ze,zd,za,zo,zr,zh,zf,zg,zp,Cp.isFull,isNil,zq,simprocAttr,SQX,V.cells,hb,x0g,x5Y,x2O,x66,x1T,Nat.le_refl])))
 all_goals simp_all
theorem xkh {base:Nat} (a b c d:Nat) (h:Heap):WpF S0 base x2F [x5v a b c,U32 d] h fun v h'=>v=x5v d b c∧h'=h:=by
 first | refine zu (A:=x28) rfl rfl rfl rfl ?_ | refine zB (A:=x28) rfl rfl rfl rfl ?_
 simp only [x28,oD,cD,τ,φ,ι]
 simp only [SQ,SQB,zm,AOp.opds,step,Opd.get,zk,bin,zzc,IntKind.signed,zi,zj,zl,zb,unary,ze,zd,za,zo,zr,zh,zf,zg,zp,Cp.isFull,isNil,zq,simprocAttr,SQX,V.cells,x0g,x5Y,x2O,x1T,Nat.le_refl,x2J,List.take_succ_cons,List.take_zero]
def xcy (o:Int):Nat:=if o≤57 then (o-50).toNat else if 58<o then (o-59).toNat+4 else 0
theorem xi4 {base:Nat} (o:Int) (h:Heap) (h1:50≤o) (h2:o<63):WpF S0 base xbU [.sc (.int .i64 o)] h fun v h'=>v=x5v 0 (xcy o) 1∧h'=h:=by
 unfold xcy x5v
 first | refine zu (A:=x3u) rfl rfl rfl rfl ?_ | refine zB (A:=x3u) rfl rfl rfl rfl ?_
 simp only [x3u,oD,cD,τ,φ,ι]
 by_cases c1:o≤57
 ·have e1:IntKind.i64.wrap (o-50)=o-50:=x08 (by omega) (by omega)
  have e2:IntKind.u32.wrap (o-50)=((o-50).toNat:Int):=by rw [x4z (by omega) (by omega)];omega
  simp only [SQ,SQB,zm,AOp.opds,step,Opd.get,zk,bin,zzc,IntKind.signed,zi,zj,zl,zb,unary,ze,zd,za,zo,zr,zh,zf,zg,zp,Cp.isFull,isNil,zq,simprocAttr,SQX,V.cells,c1,e1,e2,x0g,x5Y,x2O,x1T,Nat.le_refl,x2J,List.take_succ_cons,List.take_zero]
  rfl
 by_cases c2:58<o
 ·have e1:IntKind.i64.wrap (o-59)=o-59:=x08 (by omega) (by omega)
  have e2:IntKind.u32.wrap (o-59)=((o-59).toNat:Int):=by rw [x4z (by omega) (by omega)];omega
  have e3:IntKind.u32.wrap (((o-59).toNat:Int)+4)=(((o-59).toNat+4:Nat):Int):=by rw [x4z (by omega) (by omega)];omega
  simp only [SQ,SQB,zm,AOp.opds,step,Opd.get,zk,bin,zzc,IntKind.signed,zi,zj,zl,zb,unary,ze,zd,za,zo,zr,zh,zf,zg,zp,Cp.isFull,isNil,zq,simprocAttr,SQX,V.cells,c1,c2,e1,e2,e3,x0g,x5Y,x2O,x1T,Nat.le_refl,x2J,List.take_succ_cons,List.take_zero]
  rfl
 ·simp only [SQ,SQB,zm,AOp.opds,step,Opd.get,zk,bin,zzc,IntKind.signed,zi,zj,zl,zb,unary,ze,zd,za,zo,zr,zh,zf,zg,zp,Cp.isFull,isNil,zq,simprocAttr,SQX,V.cells,c1,c2,x0g,x5Y,x2O,x1T,Nat.le_refl,x2J,List.take_succ_cons,List.take_zero]
  simp [c1,c2]
theorem xeA {base:Nat} {h:Heap} {t:TypeId} {zs l:List V} {n:Nat} (hz:zs.length=n) (hl:l.length=n) (hn:1<n) (ho:l.all zm=true) (hB:base≤h.length):x0y base (h++[.row t 1 0 (x3R 1 zs)]) n (.rptr h.length 0 0 0) (.agg l)=some (h++[.row t 1 0 (l.map fun x=>[x])]):=by
 unfold x0y
 obtain ⟨z,r,rfl⟩:∃ z r,zs=z::r:=by
  cases zs with
  | nil=>simp at hz;omega
  | cons z r=>exact ⟨z,r,rfl⟩
 have e1:¬ (0+n≤0+1∧x0H base h.length l=true):=by omega
 have e2:x0H base h.length l=true:=by simp [x0H,hB]
 rw [if_pos ⟨hl,ho⟩]
 simp only [x2J,xjd,List.map_cons,List.getElem?_cons_zero,V.cells,List.length_cons,List.length_nil]
 rw [if_pos trivial,if_neg e1,if_pos ⟨trivial,by rw [← List.map_cons (f:=fun x=>[x]),xba];omega,e2⟩,x7u,← List.map_cons (f:=fun x=>[x]),xba,xa3 (by omega)]
def f5L:List Nat:=[2,3,1,0,4,12,8,16,20,24,28]
theorem xgg:x0q [(.sc (.int .u32 (0))),(.sc (.int .u32 (0))),(.sc (.int .u32 (0))),(.sc (.int .u32 (0))),(.sc (.int .u32 (0))),(.sc (.int .u32 (0))),(.sc (.int .u32 (0))),(.sc (.int .u32 (0))),(.sc (.int .u32 (0))),(.sc (.int .u32 (0))),(.sc (.int .u32 (0)))] [(0,1,((.sc (.int .u32 (2))))),(1,1,((.sc (.int .u32 (3))))),(2,1,((.sc (.int .u32 (1))))),(3,1,((.sc (.int .u32 (0))))),(4,1,((.sc (.int .u32 (4))))),(5,1,((.sc (.int .u32 (12))))),(6,1,((.sc (.int .u32 (8))))),(7,1,((.sc (.int .u32 (16))))),(8,1,((.sc (.int .u32 (20))))),(9,1,((.sc (.int .u32 (24))))),(10,1,((.sc (.int .u32 (28)))))]=some (arU f5L):=rfl
set_option maxHeartbeats 1000000 in
theorem xgr {base:Nat} (op:Nat) (h:Heap) (h1:66≤op) (h2:op<88):WpF S0 base xaY [V.int op] h fun v h'=>v=(if 77≤op then x5v 47 3 (f5L.getD (op-77) 0*4) else x5v 47 2 (f5L.getD (op-66) 0*4))∧h'=h:=by
 have hll:(arU f5L).length=11:=rfl
 have hb:∀ k:Nat,k<11→f5L.getD k 0<32:=by decide
 obtain ⟨R,es,el⟩:∃ R,(∀ zs:List V,zs.length=11→∀ (b:Obj),x0y h.length (h++[b]++[.row 145 1 0 (x3R 1 zs)]) 11 (.rptr (h++[b]).length 0 0 0) (.agg (arU f5L))=some (h++[b]++[.row 145 1 0 R]))∧∀ (b:Obj) (k:Nat),k<11→zl (h++[b]++[.row 145 1 0 R]) none (.rptr (h++[b]).length 0 0 k)=some (U32 (f5L.getD k 0)):=⟨_,fun zs hz b=>xeA (n:=11) (l:=arU f5L) hz rfl (by decide) rfl (by simp),fun b k hk=>by
  rw [xbr (l:=arU f5L) (by omega),List.getElem_map,List.getD_eq_getElem?_getD,List.getElem?_eq_getElem (by rw [List.length_map] at hll;omega)];rfl⟩
 first | refine zu (A:=x3a) rfl rfl rfl rfl ?_ | refine zB (A:=x3a) rfl rfl rfl rfl ?_
 simp only [x3a,oD,cD,τ,φ,ι]
 by_cases hc:77≤op
 ·have e1:IntKind.i64.wrap ((op:Int)-77)=((op-77:Nat):Int):=by rw [x08 (by omega) (by omega)];omega
  have:=hb (op-77) (by omega)
  have e2:IntKind.u32.wrap (((f5L.getD (op-77) 0:Nat):Int)*2 ^ min 2 IntKind.u32.bits)=((f5L.getD (op-77) 0*4:Nat):Int):=by
   rw [show (2:Int) ^ min 2 IntKind.u32.bits=4 from rfl,x4z (by omega) (by omega)];omega
  rw [if_pos hc]
  simp only [SQ,SQB,zm,AOp.opds,step,Opd.get,zk,bin,zzc,IntKind.signed,zi,zj,zb,unary,ze,zd,za,zo,zr,zh,zf,zg,zp,Cp.isFull,isNil,zq,simprocAttr,SQX,V.cells,xgg,es,el _ (op-77) (by omega),show (77:Int)≤op by omega,e1,Nat.mul_one,show op-77<11 by omega,show ((op-77:Nat):Int)<11 by omega,e2,x0g,x5Y,x7t,x6S,x51,Nat.le_refl]
  rfl
 ·have e1:IntKind.i64.wrap ((op:Int)-66)=((op-66:Nat):Int):=by rw [x08 (by omega) (by omega)];omega
  have:=hb (op-66) (by omega)
  have e2:IntKind.u32.wrap (((f5L.getD (op-66) 0:Nat):Int)*2 ^ min 2 IntKind.u32.bits)=((f5L.getD (op-66) 0*4:Nat):Int):=by
   rw [show (2:Int) ^ min 2 IntKind.u32.bits=4 from rfl,x4z (by omega) (by omega)];omega
  rw [if_neg hc]
  simp only [SQ,SQB,zm,AOp.opds,step,Opd.get,zk,bin,zzc,IntKind.signed,zi,zj,zb,unary,ze,zd,za,zo,zr,zh,zf,zg,zp,Cp.isFull,isNil,zq,simprocAttr,SQX,V.cells,xgg,es,el _ (op-66) (by omega),show ¬ (77:Int)≤op by omega,e1,Nat.mul_one,show op-66<11 by omega,show ((op-66:Nat):Int)<11 by omega,e2,x0g,x5Y,x7t,x6S,x51,Nat.le_refl]
  rfl
end
section
theorem x6W {base:Nat} (o:Int) (h:Heap):WpF S0 base xaW [.sc (.int .i64 o)] h fun v h'=>v=.bool (inI o 5 10)∧h'=h:=by
 have hi:=fun base a b h=>x7B (base:=base) o a b h
 first | refine zu (A:=x38) rfl rfl rfl rfl ?_ | refine zB (A:=x38) rfl rfl rfl rfl ?_
 simp only [x38,oD,cD,τ,φ,ι]
 simp only [SQ,SQB,zm,AOp.opds,step,Opd.get,zk,bin,zzc,IntKind.signed,zi,zj,zl,zb,unary,ze,zd,za,zo,zr,zh,zf,zg,zp,Cp.isFull,isNil,zq,simprocAttr,-List.reduceReplicate,SQX,V.cells,zn (hi _ _ _ _)]
def x7I (op:Nat):Int×Int×Int :=
 if (op:Int)≤4 then ([55,23,111,103].getD (op-1) 0,0,0) else if (op:Int)≤10 then (99,[0,1,4,5,6,7].getD (op-5) 0,0) else if (op:Int)≤17 then (3,IntKind.u32.wrap ((op:Int)-11),0) else if (op:Int)≤21 then (35,IntKind.u32.wrap ((op:Int)-18),0) else if (op:Int)≤30 then (19,(x6l op).1,(x6l op).2) else if (op:Int)≤34 then (27,(x6l op).1,(x6l op).2) else if (op:Int)≤44 then (51,(x6l op).1,(x6l op).2) else if (op:Int)≤49 then (59,(x6l op).1,(x6l op).2) else if (op:Int)≤57 then (51,xcy op,1) else if (op:Int)≤62 then (59,xcy op,1) else if (op:Int)=63 then (15,0,0) else if (op:Int)≤65 then (115,0,0) else if (77:Int)≤op then (47,3,(f5L.getD (op-77) 0*4:Nat)) else (47,2,(f5L.getD (op-66) 0*4:Nat))
theorem xgv:∀ op:Nat,op<88→1≤op→x7I op=(((F (x0k op) 0 7:Nat):Int),((F (x0k op) 12 3:Nat):Int),((F (x0k op) 25 7:Nat):Int)):=by decide +kernel
theorem xny:x0q [(.sc (.int .u32 (0))),(.sc (.int .u32 (0))),(.sc (.int .u32 (0))),(.sc (.int .u32 (0)))] [(0,1,((.sc (.int .u32 (55))))),(1,1,((.sc (.int .u32 (23))))),(2,1,((.sc (.int .u32 (111))))),(3,1,((.sc (.int .u32 (103)))))]=some [.sc (.int .u32 55),.sc (.int .u32 23),.sc (.int .u32 111),.sc (.int .u32 103)]:=rfl
theorem xnx:x0q [(.sc (.int .u32 (0))),(.sc (.int .u32 (0))),(.sc (.int .u32 (0))),(.sc (.int .u32 (0))),(.sc (.int .u32 (0))),(.sc (.int .u32 (0)))] [(0,1,((.sc (.int .u32 (0))))),(1,1,((.sc (.int .u32 (1))))),(2,1,((.sc (.int .u32 (4))))),(3,1,((.sc (.int .u32 (5))))),(4,1,((.sc (.int .u32 (6))))),(5,1,((.sc (.int .u32 (7)))))]=some [.sc (.int .u32 0),.sc (.int .u32 1),.sc (.int .u32 4),.sc (.int .u32 5),.sc (.int .u32 6),.sc (.int .u32 7)]:=rfl
set_option maxHeartbeats 2000000 in
theorem xoB {base:Nat} (op:Nat) (h:Heap) (h1:1≤op) (h2:op<88):WpF S0 base xhQ [V.int op] h fun v h'=>v=x5v (F (x0k op) 0 7) (F (x0k op) 12 3) (F (x0k op) 25 7)∧h'=h:=by
 have ht:=xgv op h2 h1
 have hB:=fun base h=>x6W (base:=base) op h
 have ha:=fun base h=>xi9 (base:=base) op h
 have hw:∀ (d:Nat) base b c h,WpF S0 base x2F [x5v 0 b c,U32 d] h fun v h'=>v=x5v d b c∧h'=h:=fun d base b c h=>xkh (base:=base) 0 b c d h
 have w19:∀ base b c h,WpF S0 base x2F [x5v 0 b c,.sc (.int .u32 19)] h fun v h'=>v=x5v 19 b c∧h'=h:=fun base b c h=>hw 19 base b c h
 have w27:∀ base b c h,WpF S0 base x2F [x5v 0 b c,.sc (.int .u32 27)] h fun v h'=>v=x5v 27 b c∧h'=h:=fun base b c h=>hw 27 base b c h
 have w51:∀ base b c h,WpF S0 base x2F [x5v 0 b c,.sc (.int .u32 51)] h fun v h'=>v=x5v 51 b c∧h'=h:=fun base b c h=>hw 51 base b c h
 have w59:∀ base b c h,WpF S0 base x2F [x5v 0 b c,.sc (.int .u32 59)] h fun v h'=>v=x5v 59 b c∧h'=h:=fun base b c h=>hw 59 base b c h
 clear hw
 have hv:x5v (F (x0k op) 0 7) (F (x0k op) 12 3) (F (x0k op) 25 7)=.agg [.sc (.int .u32 (x7I op).1),.sc (.int .u32 (x7I op).2.1),.sc (.int .u32 (x7I op).2.2)]:=by rw [ht]
 rw [hv]
 clear hv ht
 first | refine zu (A:=x5L) rfl rfl rfl rfl ?_ | refine zB (A:=x5L) rfl rfl rfl rfl ?_
 simp only [x5L,oD,cD,τ,φ,ι]
 have k1:IntKind.i64.wrap ((op:Int)-1)=((op-1:Nat):Int):=by rw [x08 (by omega) (by omega)];omega
 by_cases c1:op≤4
 ·have k2:([.sc (.int .u32 55),.sc (.int .u32 23),.sc (.int .u32 111),.sc (.int .u32 103)]:List V)[op-1]?=some (.sc (.int .u32 (x7I op).1))∧(x7I op).2=(0,0):=by
   rcases (show op=1∨op=2∨op=3∨op=4 by omega) with rfl | rfl | rfl | rfl<;>exact ⟨rfl,rfl⟩
  simp only [SQ,SQB,zm,AOp.opds,step,Opd.get,zk,bin,zzc,IntKind.signed,zi,zj,zl,zb,unary,ze,zd,za,zo,zr,zh,zf,zg,zp,Cp.isFull,isNil,zq,simprocAttr,-List.reduceReplicate,SQX,V.cells,xny,show (op:Int)≤4 by omega,k1,show op-1<4 by omega,Nat.mul_one,k2.1,k2.2,x0g,x5Y,x2O,x1T,Nat.le_refl,x2J,List.take_succ_cons,List.take_zero]
 by_cases c2:op≤10
 ·have k3:IntKind.i64.wrap ((op:Int)-5)=((op-5:Nat):Int):=by rw [x08 (by omega) (by omega)];omega
  have k4:inI (op:Int) 5 10=true:=by simp [inI];omega
  rw [k4] at hB
  have k2:([.sc (.int .u32 0),.sc (.int .u32 1),.sc (.int .u32 4),.sc (.int .u32 5),.sc (.int .u32 6),.sc (.int .u32 7)]:List V)[op-5]?=some (.sc (.int .u32 (x7I op).2.1))∧(x7I op).1=99∧(x7I op).2.2=0:=by
   rcases (show op=5∨op=6∨op=7∨op=8∨op=9∨op=10 by omega) with rfl | rfl | rfl | rfl | rfl | rfl<;>exact ⟨rfl,rfl,rfl⟩
  simp only [SQ,SQB,zm,AOp.opds,step,Opd.get,zk,bin,zzc,IntKind.signed,zi,zj,zl,zb,unary,ze,zd,za,zo,zr,zh,zf,zg,zp,Cp.isFull,isNil,zq,simprocAttr,-List.reduceReplicate,SQX,V.cells,xnx,show ¬ (op:Int)≤4 by omega,zn (hB _ _),k3,show op-5<6 by omega,Nat.mul_one,k2.1,k2.2.1,k2.2.2,x0g,x5Y,x2O,x1T,Nat.le_refl,x2J,List.take_succ_cons,List.take_zero]
 have k4:inI (op:Int) 5 10=false:=by simp [inI];omega
 rw [k4] at hB
 have n1:¬ (op:Int)≤4:=by omega
 have n10:¬ (op:Int)≤10:=by omega
 have e11:IntKind.i64.wrap ((op:Int)-11)=(op:Int)-11:=x08 (by omega) (by omega)
 have e18:IntKind.i64.wrap ((op:Int)-18)=(op:Int)-18:=x08 (by omega) (by omega)
 have ht:=fun base h (q:50≤op∧op<63)=>xi4 (base:=base) op h (by omega) (by omega)
 have hat:=fun base h (q:66≤op)=>xgr (base:=base) op h q h2
 by_cases c3:op≤49
 ·clear ht hat
  unfold x7I
  rw [if_neg n1,if_neg n10]
  (simp only [SQ,zm,AOp.opds,step,Opd.get,zk,bin,zzc,IntKind.signed,zi,zj,zl,zb,unary,ze,zd,za,zo,zr,zh,zf,zg,zp,Cp.isFull,isNil,zq,simprocAttr,-List.reduceReplicate,SQX,V.cells,n1,zn (hB _ _),e11,e18,zn (ha _ _),zn (w19 _ _ _ _),zn (w27 _ _ _ _),zn (w51 _ _ _ _),zn (w59 _ _ _ _),x0g,x5Y,x2O,x1T,Nat.le_refl,x2J,List.take_succ_cons,List.take_zero];repeat' ((first | refine x0G ?_ ?_ | refine x0u ?_ ?_ | refine x0v ?_ ?_)<;>(intro hb;simp only [SQ,zm,AOp.opds,step,Opd.get,zk,bin,zzc,IntKind.signed,zi,zj,zl,zb,unary,ze,zd,za,zo,zr,zh,zf,zg,zp,Cp.isFull,isNil,zq,simprocAttr,-List.reduceReplicate,SQX,V.cells,hb,n1,zn (hB _ _),e11,e18,zn (ha _ _),zn (w19 _ _ _ _),zn (w27 _ _ _ _),zn (w51 _ _ _ _),zn (w59 _ _ _ _),x0g,x5Y,x2O,x1T,Nat.le_refl,x2J,List.take_succ_cons,List.take_zero])))
  all_goals clear ha w19 w27 w51 w59 hB
  all_goals clear k1 k4 e11 e18 c1 c2
  all_goals (simp only [decide_eq_true_eq,decide_eq_false_iff_not] at *)
  all_goals (first | rfl | (simp only [*,if_true,if_false];done) | (exfalso;omega))
 have n17:¬ (op:Int)≤17:=by omega
 have n21:¬ (op:Int)≤21:=by omega
 have n30:¬ (op:Int)≤30:=by omega
 have n34:¬ (op:Int)≤34:=by omega
 have n44:¬ (op:Int)≤44:=by omega
 have n49:¬ (op:Int)≤49:=by omega
 by_cases c4:op≤62
 ·have ht:=fun base h=>ht base h ⟨by omega,by omega⟩
  clear hat
  unfold x7I
  rw [if_neg n1,if_neg n10]
  (simp only [SQ,zm,AOp.opds,step,Opd.get,zk,bin,zzc,IntKind.signed,zi,zj,zl,zb,unary,ze,zd,za,zo,zr,zh,zf,zg,zp,Cp.isFull,isNil,zq,simprocAttr,-List.reduceReplicate,SQX,V.cells,zn (ht _ _),n17,n21,n30,n34,n44,n49,n1,zn (hB _ _),e11,e18,zn (ha _ _),zn (w19 _ _ _ _),zn (w27 _ _ _ _),zn (w51 _ _ _ _),zn (w59 _ _ _ _),x0g,x5Y,x2O,x1T,Nat.le_refl,x2J,List.take_succ_cons,List.take_zero];repeat' ((first | refine x0G ?_ ?_ | refine x0u ?_ ?_ | refine x0v ?_ ?_)<;>(intro hb;simp only [SQ,zm,AOp.opds,step,Opd.get,zk,bin,zzc,IntKind.signed,zi,zj,zl,zb,unary,ze,zd,za,zo,zr,zh,zf,zg,zp,Cp.isFull,isNil,zq,simprocAttr,-List.reduceReplicate,SQX,V.cells,hb,zn (ht _ _),n17,n21,n30,n34,n44,n49,n1,zn (hB _ _),e11,e18,zn (ha _ _),zn (w19 _ _ _ _),zn (w27 _ _ _ _),zn (w51 _ _ _ _),zn (w59 _ _ _ _),x0g,x5Y,x2O,x1T,Nat.le_refl,x2J,List.take_succ_cons,List.take_zero])))
  all_goals clear ha w19 w27 w51 w59 hB ht
  all_goals clear k1 k4 e11 e18 c1 c2
  all_goals (simp only [decide_eq_true_eq,decide_eq_false_iff_not] at *)
  all_goals (first | rfl | (simp only [*,if_true,if_false];done) | (exfalso;omega))
 have n57:¬ (op:Int)≤57:=by omega
 have n62:¬ (op:Int)≤62:=by omega
 by_cases c5:op≤65
 ·clear ht hat
  unfold x7I
  rw [if_neg n1,if_neg n10]
  (simp only [SQ,zm,AOp.opds,step,Opd.get,zk,bin,zzc,IntKind.signed,zi,zj,zl,zb,unary,ze,zd,za,zo,zr,zh,zf,zg,zp,Cp.isFull,isNil,zq,simprocAttr,-List.reduceReplicate,SQX,V.cells,n17,n21,n30,n34,n44,n49,n57,n62,n1,zn (hB _ _),e11,e18,zn (ha _ _),zn (w19 _ _ _ _),zn (w27 _ _ _ _),zn (w51 _ _ _ _),zn (w59 _ _ _ _),x0g,x5Y,x2O,x1T,Nat.le_refl,x2J,List.take_succ_cons,List.take_zero];repeat' ((first | refine x0G ?_ ?_ | refine x0u ?_ ?_ | refine x0v ?_ ?_)<;>(intro hb;simp only [SQ,zm,AOp.opds,step,Opd.get,zk,bin,zzc,IntKind.signed,zi,zj,zl,zb,unary,ze,zd,za,zo,zr,zh,zf,zg,zp,Cp.isFull,isNil,zq,simprocAttr,-List.reduceReplicate,SQX,V.cells,hb,n17,n21,n30,n34,n44,n49,n57,n62,n1,zn (hB _ _),e11,e18,zn (ha _ _),zn (w19 _ _ _ _),zn (w27 _ _ _ _),zn (w51 _ _ _ _),zn (w59 _ _ _ _),x0g,x5Y,x2O,x1T,Nat.le_refl,x2J,List.take_succ_cons,List.take_zero])))
  all_goals clear ha w19 w27 w51 w59 hB
  all_goals clear k1 k4 e11 e18 c1 c2
  all_goals (simp only [decide_eq_true_eq,decide_eq_false_iff_not] at *)
  all_goals (first | rfl | (simp only [*,if_true,if_false];done) | (exfalso;omega))
 have hat:=fun base h=>hat base h (by omega)
 unfold x7I
 rw [if_neg n1,if_neg n10,if_neg (by omega),if_neg (by omega),if_neg (by omega),if_neg (by omega),if_neg (by omega),if_neg (by omega),if_neg (by omega),if_neg (by omega),if_neg (by omega),if_neg (by omega)]
 by_cases c6:77≤op
 ·rw [if_pos c6] at hat
  rw [if_pos (by omega)]
  simp only [SQ,SQB,zm,AOp.opds,step,Opd.get,zk,bin,zzc,IntKind.signed,zi,zj,zl,zb,unary,ze,zd,za,zo,zr,zh,zf,zg,zp,Cp.isFull,isNil,zq,simprocAttr,-List.reduceReplicate,SQX,V.cells,zn (hat _ _),n17,n21,n30,n34,n44,n49,n57,n62,show ¬ (op:Int)=63 by omega,show ¬ (op:Int)≤65 by omega,c6,n1,zn (hB _ _),e11,e18,zn (ha _ _),zn (w19 _ _ _ _),zn (w27 _ _ _ _),zn (w51 _ _ _ _),zn (w59 _ _ _ _),x0g,x5Y,x2O,x1T,Nat.le_refl,x2J,List.take_succ_cons,List.take_zero]
 ·rw [if_neg c6] at hat
  rw [if_neg (by omega)]
  simp only [SQ,SQB,zm,AOp.opds,step,Opd.get,zk,bin,zzc,IntKind.signed,zi,zj,zl,zb,unary,ze,zd,za,zo,zr,zh,zf,zg,zp,Cp.isFull,isNil,zq,simprocAttr,-List.reduceReplicate,SQX,V.cells,zn (hat _ _),n17,n21,n30,n34,n44,n49,n57,n62,show ¬ (op:Int)=63 by omega,show ¬ (op:Int)≤65 by omega,c6,n1,zn (hB _ _),e11,e18,zn (ha _ _),zn (w19 _ _ _ _),zn (w27 _ _ _ _),zn (w51 _ _ _ _),zn (w59 _ _ _ _),x0g,x5Y,x2O,x1T,Nat.le_refl,x2J,List.take_succ_cons,List.take_zero]
end
section
def putN (w a n v:Nat):Nat:=w-F w a n*2 ^ a+v%2 ^ n*2 ^ a
theorem xfH {a n:Nat} (h:a+n≤32):(2 ^ n-1)*2 ^ a<2 ^ 32:=by
 have h1:2 ^ n*2 ^ a≤2 ^ 32:=by rw [← Nat.pow_add];exact Nat.pow_le_pow_right (by decide) (by omega)
 have h2:=Nat.two_pow_pos n
 have h3:=Nat.two_pow_pos a
 have h4:(2 ^ n-1)*2 ^ a=2 ^ n*2 ^ a-2 ^ a:=by rw [Nat.sub_mul,Nat.one_mul]
 omega
theorem xeD {a b:Nat} (ha:a<4294967296) (hb:b<4294967296):IntKind.u32.wrap (BitVec.ofInt IntKind.u32.bits (a:Int) &&& ~~~ BitVec.ofInt IntKind.u32.bits (b:Int)).toNat=((a &&& (4294967295-b):Nat):Int):=by
 have e:(~~~ BitVec.ofInt IntKind.u32.bits (b:Int)).toNat=4294967295-b:=by
  rw [BitVec.toNat_not,x6R,Nat.mod_eq_of_lt hb]
  show 2 ^ 32-1-b=_
  omega
 rw [BitVec.toNat_and,x6R,Nat.mod_eq_of_lt ha,e,x5j,Nat.mod_eq_of_lt (Nat.lt_of_le_of_lt Nat.and_le_left ha)]
theorem xgM {x m:Nat} (hm:m<2 ^ 32):(x%4294967296) &&& m=x &&& m:=by
 apply Nat.eq_of_testBit_eq
 intro i
 rw [show (4294967296:Nat)=2 ^ 32 from rfl,Nat.testBit_and,Nat.testBit_and,Nat.testBit_mod_two_pow]
 by_cases h:i<32
 ·simp [h]
 ·have:m.testBit i=false:=Nat.testBit_lt_two_pow (Nat.lt_of_lt_of_le hm (Nat.pow_le_pow_right (by decide) (by omega)))
  simp [this]
theorem xjz {w a n v:Nat} (hw:w<2 ^ 32) (h:a+n≤32):putN w a n v<2 ^ 32:=by
 unfold putN
 rw [← xl4 w a n v h hw]
 exact Nat.or_lt_two_pow (Nat.lt_of_le_of_lt Nat.and_le_left hw) (Nat.lt_of_le_of_lt Nat.and_le_right (xfH h))
theorem xiF {base:Nat} (w a n v:Nat) (h:Heap) (hw:w<2 ^ 32) (hv:v<2 ^ 32) (hn:1≤n) (ha:a+n≤32):WpF S0 base xdZ [U32 w,V.int a,V.int n,U32 v] h fun r h'=>r=.tup [U32 (putN w a n v),V.int 0]∧h'=h:=by
 have hm:=xfH ha
 have e0:min a IntKind.u32.bits=a:=Nat.min_eq_left (by simp only [IntKind.bits];omega)
 have ep:(2:Int) ^ a=((2 ^ a:Nat):Int):=by simp
 have e1:IntKind.u32.wrap (((2 ^ n-1:Nat):Int)*2 ^ min a IntKind.u32.bits)=(((2 ^ n-1)*2 ^ a:Nat):Int):=by
  rw [e0,ep,← Int.natCast_mul]
  exact x60 hm
 have e2:IntKind.u32.wrap ((v:Int)*2 ^ min a IntKind.u32.bits)=((v*2 ^ a%4294967296:Nat):Int):=by
  rw [e0,ep,← Int.natCast_mul]
  exact x5j _
 have e3:=xeD (a:=w) (b:=(2 ^ n-1)*2 ^ a) hw hm
 have e4:=xgL (a:=v*2 ^ a%4294967296) (b:=(2 ^ n-1)*2 ^ a) (by omega) hm
 have e5:=xaH (a:=w &&& (4294967295-(2 ^ n-1)*2 ^ a)) (b:=(v*2 ^ a%4294967296) &&& ((2 ^ n-1)*2 ^ a)) (Nat.lt_of_le_of_lt Nat.and_le_left hw) (Nat.lt_of_le_of_lt Nat.and_le_right hm)
 have e6:(w &&& (4294967295-(2 ^ n-1)*2 ^ a)) ||| ((v*2 ^ a%4294967296) &&& ((2 ^ n-1)*2 ^ a))=putN w a n v:=by
  rw [xgM hm]
  exact xl4 w a n v ha hw
 rw [e6] at e5
 first | refine zu (A:=x48) rfl rfl rfl rfl ?_ | refine zB (A:=x48) rfl rfl rfl rfl ?_
 simp only [x48,oD,cD,τ,φ,ι]
 simp only [SQ,SQB,zm,AOp.opds,step,Opd.get,zk,bin,zzc,IntKind.signed,zi,zj,zl,zb,unary,ze,zd,za,zo,zr,zh,zf,zg,zp,Cp.isFull,isNil,zq,simprocAttr,zn (xeN a n _ hn ha),zn (xeO n _ (by omega)),e1,e2,e3,e4,e5,show ¬ (a:Int)<0 by omega]
abbrev pc (p:Nat×Nat×Nat):List V:=[U32 p.1,V.int p.2.1,V.int p.2.2]
def x15 (l:List (Nat×Nat×Nat)):Nat:=l.foldl (fun w p=>putN w p.2.1 p.2.2 p.1) 0
def PcOk (p:Nat×Nat×Nat):Prop:=p.1<2 ^ 32∧1≤p.2.2∧p.2.1+p.2.2≤32
theorem x8e {l:List (Nat×Nat×Nat)} (h:∀ p∈l,PcOk p):x15 l<2 ^ 32:=by
 unfold x15
 have:∀ (l:List (Nat×Nat×Nat)) (w:Nat),(∀ p∈l,PcOk p)→w<2 ^ 32→l.foldl (fun w p=>putN w p.2.1 p.2.2 p.1) w<2 ^ 32:=by
  intro l
  induction l with
  | nil=>intro w _ hw;exact hw
  | cons p r ih=>intro w hp hw;exact ih _ (fun q hq=>hp q (List.mem_cons_of_mem _ hq)) (xjz hw (hp p (List.mem_cons_self)).2.2)
 exact this l 0 h (by decide)
theorem xl6 {base:Nat} (l:List (Nat×Nat×Nat)) (ex:Cp) (h:Heap) (hl:l.length<1000) (ho:∀ p∈l,PcOk p):WpF S0 base x5p [.slc ex 3 (l.map pc)] h fun v h'=>v=U32 (x15 l)∧h'=h:=by
 first | refine zu (A:=x2T) rfl rfl rfl rfl ?_ | refine zB (A:=x2T) rfl rfl rfl rfl ?_
 simp only [x2T,oD,cD,τ,φ,ι]
 simp only [SQ,SQB,zm,AOp.opds,step,Opd.get,zk,bin,zzc,IntKind.signed,zi,zj,zl,zb,unary,ze,zd,za,zo,zr,zh,zf,zg,zp,Cp.isFull,isNil,zq,simprocAttr,]
 refine x1y (fun k en h'=>∃ i:Nat,k=l.length-i∧i≤l.length∧en 8=V.int i∧en 7=V.int l.length∧en 6=.slc ex 3 (l.map pc)∧en 3=U32 (x15 (l.take i))∧h'=h) l.length ⟨0,rfl,Nat.zero_le _,rfl,rfl,rfl,rfl,rfl⟩ ?_
 rintro k en h' ⟨i,rfl,hi,e8,e7,e6,e3,rfl⟩
 by_cases h1:i<l.length
 ·have hg':(l.map pc)[i]?=some (pc l[i]):=by simp [List.getElem?_map,h1]
  have htk:x15 (l.take (i+1))=putN (x15 (l.take i)) l[i].2.1 l[i].2.2 l[i].1:=by
   unfold x15
   rw [List.take_add_one,List.getElem?_eq_getElem h1,List.foldl_append];rfl
  obtain ⟨o1,o2,o3⟩:=ho _ (List.getElem_mem h1)
  have hw:x15 (l.take i)<2 ^ 32:=x8e fun p hp=>ho p (List.mem_of_mem_take hp)
  have hP:=fun base h=>xiF (base:=base) (x15 (l.take i)) l[i].2.1 l[i].2.2 l[i].1 h hw o1 o2 o3
  simp only [SQ,SQB,zm,AOp.opds,step,Opd.get,zk,bin,zzc,IntKind.signed,zi,zj,zl,zb,unary,ze,zd,za,zo,zr,zh,zf,zg,zp,Cp.isFull,isNil,zq,simprocAttr,SQX,V.cells,e8,e7,e6,e3,h1,hg',zn (hP _ _),x1T,List.take_succ_cons,List.take_zero]
  exact ⟨l.length-(i+1),by omega,i+1,rfl,by omega,by rw [x08 (by omega) (by omega)];rfl,by rw [htk]⟩
 ·have:l.take i=l:=List.take_of_length_le (by omega)
  rw [this] at e3
  simp only [SQ,SQB,zm,AOp.opds,step,Opd.get,zk,bin,zzc,IntKind.signed,zi,zj,zl,zb,unary,ze,zd,za,zo,zr,zh,zf,zg,zp,Cp.isFull,isNil,zq,simprocAttr,SQX,V.cells,e8,e7,e6,e3,h1]
end
section
theorem x9t {base:Nat} (op rd a b imm:Int) (aq rl:Bool) (h:Heap) (h0:-9223372036854775808≤imm) (h1:imm≤9223372036854775807):WpF S0 base xbT [ins op rd a b imm aq rl] h fun v h'=>v=.tup [.bool (mayI op rd a b imm aq rl&&fA (x0a op)),.bool (mayI op rd a b imm aq rl&&fB (x0a op))]∧h'=h:=by
 have hM:=fun base h=>x8j (base:=base) op rd a b imm aq rl h h0 h1
 have hF:=fun base h=>x4R (base:=base) op h
 have hf:=fun base f h=>x8M (base:=base) f h
 generalize mayI op rd a b imm aq rl=m at *
 first | refine zu (A:=x3t) rfl rfl rfl rfl ?_ | refine zB (A:=x3t) rfl rfl rfl rfl ?_
 simp only [x3t,oD,cD,τ,φ,ι]
 (simp only [SQ,zm,AOp.opds,step,Opd.get,zk,bin,zzc,IntKind.signed,zi,zj,zl,zb,unary,ze,zd,za,zo,zr,zh,zf,zg,zp,Cp.isFull,isNil,zq,simprocAttr,SQX,V.cells,zn (hM _ _),zn (hF _ _),zn (hf _ _ _),List.take_succ_cons,List.take_zero];repeat' ((first | refine x0G ?_ ?_ | refine x0u ?_ ?_ | refine x0v ?_ ?_)<;>(intro hb;simp only [SQ,zm,AOp.opds,step,Opd.get,zk,bin,zzc,IntKind.signed,zi,zj,zl,zb,unary,ze,zd,za,zo,zr,zh,zf,zg,zp,Cp.isFull,isNil,zq,simprocAttr,SQX,V.cells,hb,zn (hM _ _),zn (hF _ _),zn (hf _ _ _),List.take_succ_cons,List.take_zero])))
 all_goals simp_all
theorem x6V {base:Nat} (op rd a b imm:Int) (aq rl:Bool) (h:Heap) (h0:-9223372036854775808≤imm) (h1:imm≤9223372036854775807):WpF S0 base xaV [ins op rd a b imm aq rl] h fun v h'=>v=.tup [.sc (.int .i64 (if mayI op rd a b imm aq rl then rd else 0)),.bool (mayI op rd a b imm aq rl&&decide (rd≠0))]∧h'=h:=by
 have hM:=fun base h=>x8j (base:=base) op rd a b imm aq rl h h0 h1
 generalize mayI op rd a b imm aq rl=m at *
 first | refine zu (A:=x37) rfl rfl rfl rfl ?_ | refine zB (A:=x37) rfl rfl rfl rfl ?_
 simp only [x37,oD,cD,τ,φ,ι]
 (simp only [SQ,zm,AOp.opds,step,Opd.get,zk,bin,zzc,IntKind.signed,zi,zj,zl,zb,unary,ze,zd,za,zo,zr,zh,zf,zg,zp,Cp.isFull,isNil,zq,simprocAttr,SQX,V.cells,zn (hM _ _),List.take_succ_cons,List.take_zero];repeat' ((first | refine x0G ?_ ?_ | refine x0u ?_ ?_ | refine x0v ?_ ?_)<;>(intro hb;simp only [SQ,zm,AOp.opds,step,Opd.get,zk,bin,zzc,IntKind.signed,zi,zj,zl,zb,unary,ze,zd,za,zo,zr,zh,zf,zg,zp,Cp.isFull,isNil,zq,simprocAttr,SQX,V.cells,hb,zn (hM _ _),List.take_succ_cons,List.take_zero])))
 all_goals simp_all
end
section
def RegV (h0:Heap) (l:List (Nat×Nat×Nat)):V:=match l with
 | []=>.sc (.slice none 0 0)
 | _::r=>.hsl h0.length r.length 0 (r.length+1)
def RegH (h0:Heap) (l:List (Nat×Nat×Nat)):Heap:=match l with
 | []=>h0
 | p::r=>h0++[.row 129 3 r.length ((p::r).map pc)]
theorem xcS (l:List (Nat×Nat×Nat)):x5m 3 (l.map pc)=true:=by
 unfold x5m
 rw [List.all_eq_true]
 intro r hr
 obtain ⟨p,_,rfl⟩:=List.mem_map.1 hr
 rfl
theorem xdN {base:Nat} {h0:Heap} {l:List (Nat×Nat×Nat)} {q:Nat×Nat×Nat} {s:List (Nat×Nat×Nat)} (hb:base≤h0.length) (hl:l.length+s.length<1000):x1D base (RegH h0 l) 129 3 (RegV h0 l) ((q::s).map pc)=some (match l with
 | []=>.hsl h0.length 0 0 (s.length+1)
 | p::r=>.hsl h0.length (r.length+1) 0 (r.length+1+(s.length+1)),match l with
 | []=>h0++[.row 129 3 0 ((q::s).map pc)]
 | p::r=>h0++[.row 129 3 (r.length+1) ((p::r).map pc++(q::s).map pc)]):=by
 have hlim:1000≤lim:=by decide
 cases l with
 | nil =>
  simp only [RegH,RegV,x1D,List.map_cons]
  rw [if_pos ⟨by simp only [List.length_cons,List.length_map];simp only [List.length_nil] at hl;omega,xcS (q::s)⟩]
  simp
 | cons p r =>
  simp only [RegH,RegV,x1D,List.map_cons,x2J]
  rw [if_pos]
  ·simp [x7u,List.take_of_length_le]
  ·refine ⟨trivial,trivial,trivial,by simp,by simp only [List.length_cons,List.length_map] at *;omega,xcS (q::s),?_⟩
   rw [List.all_eq_true]
   intro x _
   exact x8C hb
theorem xiO (x y z:Value):x5m 3 [[.sc x,.sc y,.sc z]]=true:=rfl
theorem xmZ {base:Nat} {h:Heap} {t:TypeId} {x y z:Value}:x1D base h t 3 (.sc (.slice none 0 0)) [[.sc x,.sc y,.sc z]]=some (.hsl h.length 0 0 1,h++[.row t 3 0 [[.sc x,.sc y,.sc z]]]):=by
 have hlim:1000≤lim:=by decide
 simp only [x1D]
 rw [if_pos ⟨by simp only [List.length_cons,List.length_nil];omega,xiO x y z⟩]
 rfl
theorem xmY {base:Nat} {h:Heap} {t:TypeId} {x y z:Value} {e k:Nat} {R:List (List V)} (hb:base≤h.length) (hR:R.length=k) (hk:k<1000):x1D base (h++[.row t 3 e R]) t 3 (.hsl h.length e 0 k) [[.sc x,.sc y,.sc z]]=some (.hsl h.length (e+1) 0 (k+1),h++[.row t 3 (e+1) (R++[[.sc x,.sc y,.sc z]])]):=by
 have hlim:1001≤lim:=by decide
 simp only [x1D,x2J]
 rw [if_pos]
 ·simp [x7u,← hR]
 ·refine ⟨trivial,trivial,trivial,by omega,by simp only [List.length_cons,List.length_nil];omega,xiO x y z,?_⟩
  rw [List.all_eq_true]
  intro x _
  exact x8C hb
theorem xkf (x y z:Value) (a b c:V):zv 3 (List.replicate 1 [a,b,c]) [(0,.agg [.sc x,.sc y,.sc z])]=some [[.sc x,.sc y,.sc z]]:=rfl
theorem xbc (x:Int) (y z:Int):x0q [.sc (.int .u32 0),.sc (.int .i64 0),.sc (.int .i64 0)] [(0,1,.sc (.int .u32 x)),(1,1,.sc (.int .i64 y)),(2,1,.sc (.int .i64 z))]=some [.sc (.int .u32 x),.sc (.int .i64 y),.sc (.int .i64 z)]:=rfl
def regP (f:Int) (rd a b:Nat):List (Nat×Nat×Nat):=(if fA f then [(a,15,5)] else [])++(if fB f then [(b,20,5)] else [])++(if rd=0 then [] else [(rd,7,5)])
theorem fBA (f:Int):fB f=true→fA f=true:=by
 unfold fB fA
 simp only [Bool.or_eq_true]
 rintro (((h | h) | h) | h)<;>simp [h]
set_option maxHeartbeats 1000000 in
theorem xl0 {base:Nat} (op imm:Int) (rd a b:Nat) (aq rl:Bool) (h:Heap) (hbase:base≤h.length) (h0:-9223372036854775808≤imm) (h1:imm≤9223372036854775807) (hrd:rd<32) (ha:a<32) (hb:b<32) (hm:mayI op rd a b imm aq rl=true):WpF S0 base x8G [ins op rd a b imm aq rl] h fun v h'=>v=RegV h (regP (x0a op) rd a b)∧h'=RegH h (regP (x0a op) rd a b):=by
 have hR:=fun base h=>x9t (base:=base) op rd a b imm aq rl h h0 h1
 have hW:=fun base h=>x6V (base:=base) op rd a b imm aq rl h h0 h1
 rw [hm] at hR hW
 simp only [Bool.true_and,if_true] at hR hW
 have ea:IntKind.u32.wrap (a:Int)=a:=x60 (by omega)
 have eb:IntKind.u32.wrap (b:Int)=b:=x60 (by omega)
 have er:IntKind.u32.wrap (rd:Int)=rd:=x60 (by omega)
 have hba:=fBA (x0a op)
 unfold regP
 generalize x0a op=f at *
 cases cA:fA f<;>cases cB:fB f<;>by_cases cr:rd=0<;>(try (rw [cA,cB] at hba;simp at hba))<;>rw [cA,cB] at hR
 all_goals (first | rw [if_pos cr] | rw [if_neg cr])
 all_goals (first | rw [show decide ((rd:Int)≠0)=true from decide_eq_true (by omega)] at hW | rw [show decide ((rd:Int)≠0)=false from decide_eq_false (by omega)] at hW)
 all_goals (first | refine zu (A:=x26) rfl rfl rfl rfl ?_ | refine zB (A:=x26) rfl rfl rfl rfl ?_)
 all_goals simp only [x26,oD,cD,τ,φ,ι]
 all_goals simp only [SQ,SQB,zm,AOp.opds,step,Opd.get,zk,bin,zzc,IntKind.signed,zi,zj,zl,zb,unary,ze,zd,za,zo,zr,zh,zf,zg,zp,Cp.isFull,isNil,zq,simprocAttr,-List.reduceReplicate,SQX,V.cells,zn (hR _ _),zn (hW _ _),ea,eb,er,x0g,x0J,xbc,xkf,xmZ,xmY,x30,x5u,hbase,List.take_succ_cons,List.take_zero,List.isEmpty_cons,Nat.reduceLT,not_true_eq_false,not_false_eq_true]
 all_goals exact ⟨rfl,rfl⟩
end
section
def bitN (b:Bool):Nat:=if b then 1 else 0
theorem xmJ {base:Nat} (b:Bool) (h:Heap):WpF S0 base xfO [.sc (.bool b)] h fun v h'=>v=U32 (bitN b)∧h'=h:=by
 unfold bitN
 first | refine zu (A:=x4V) rfl rfl rfl rfl ?_ | refine zB (A:=x4V) rfl rfl rfl rfl ?_
 simp only [x4V,oD,cD,τ,φ,ι]
 cases b
 ·simp only [SQ,SQB,zm,AOp.opds,step,Opd.get,zk,bin,zzc,IntKind.signed,zi,zj,zl,zb,unary,ze,zd,za,zo,zr,zh,zf,zg,zp,Cp.isFull,isNil,zq,simprocAttr,-List.reduceReplicate,SQX,V.cells]
  rfl
 ·simp only [SQ,SQB,zm,AOp.opds,step,Opd.get,zk,bin,zzc,IntKind.signed,zi,zj,zl,zb,unary,ze,zd,za,zo,zr,zh,zf,zg,zp,Cp.isFull,isNil,zq,simprocAttr,-List.reduceReplicate,SQX,V.cells]
  rfl
def immP (op f:Int) (v:Nat) (aq rl:Bool):List (Nat×Nat×Nat) :=
 if f=1 then [(v,12,20)] else if f=2 then [(v/1048576,31,1),(v/2,21,10),(v/2048,20,1),(v/4096,12,8)] else if f=3 then [(v,20,12)] else if f=4 then [(v/4096,31,1),(v/32,25,6),(v/2,8,4),(v/2048,7,1)] else if f=5 then [(v/32,25,7),(v,7,5)] else if f=7 then [(v,20,6)] else if f=8 then [(v,20,5)] else if f=9 then [(v,20,8)] else if f=10∨f=11 then [(bitN aq,26,1),(bitN rl,25,1)] else if op=65 then [(1,20,1)] else []
def slP (l:List (Nat×Nat×Nat)):V:=match l with
 | []=>.sc (.slice none 0 0)
 | p::r=>.slc .lit 3 ((p::r).map pc)
theorem xiW (x y z x2 y2 z2:Value) (a b c:V):zv 3 (List.replicate 2 [a,b,c]) [(0,.agg [.sc x,.sc y,.sc z]),(1,.agg [.sc x2,.sc y2,.sc z2])]=some [[.sc x,.sc y,.sc z],[.sc x2,.sc y2,.sc z2]]:=rfl
theorem xiV (x y z x2 y2 z2 x3 y3 z3:Value) (a b c:V):zv 3 (List.replicate 3 [a,b,c]) [(0,.agg [.sc x,.sc y,.sc z]),(1,.agg [.sc x2,.sc y2,.sc z2]),(2,.agg [.sc x3,.sc y3,.sc z3])]=some [[.sc x,.sc y,.sc z],[.sc x2,.sc y2,.sc z2],[.sc x3,.sc y3,.sc z3]]:=rfl
theorem xiU (x y z x2 y2 z2 x3 y3 z3 x4 y4 z4:Value) (a b c:V):zv 3 (List.replicate 4 [a,b,c]) [(0,.agg [.sc x,.sc y,.sc z]),(1,.agg [.sc x2,.sc y2,.sc z2]),(2,.agg [.sc x3,.sc y3,.sc z3]),(3,.agg [.sc x4,.sc y4,.sc z4])]=some [[.sc x,.sc y,.sc z],[.sc x2,.sc y2,.sc z2],[.sc x3,.sc y3,.sc z3],[.sc x4,.sc y4,.sc z4]]:=rfl
set_option maxHeartbeats 2000000 in
theorem xmI {base:Nat} (op rd a b imm:Int) (aq rl:Bool) (h:Heap):WpF S0 base x8H [ins op rd a b imm aq rl] h fun v h'=>v=slP (immP op (x0a op) (uN imm%4294967296) aq rl)∧h'=h:=by
 have hF:=fun base h=>x4R (base:=base) op h
 have hB:=fun base b h=>xmJ (base:=base) b h
 have e0:=x0d imm
 have e1:=x5j (uN imm)
 revert e0 e1
 generalize uN imm%4294967296=v
 generalize uN imm=u
 intro e0 e1
 have s20:(v:Int).fdiv (2 ^ min 20 IntKind.u32.bits)=((v/1048576:Nat):Int):=x6Z v 20
 have s1:(v:Int).fdiv (2 ^ min 1 IntKind.u32.bits)=((v/2:Nat):Int):=x6Z v 1
 have s11:(v:Int).fdiv (2 ^ min 11 IntKind.u32.bits)=((v/2048:Nat):Int):=x6Z v 11
 have s12:(v:Int).fdiv (2 ^ min 12 IntKind.u32.bits)=((v/4096:Nat):Int):=x6Z v 12
 have s5:(v:Int).fdiv (2 ^ min 5 IntKind.u32.bits)=((v/32:Nat):Int):=x6Z v 5
 unfold immP
 generalize x0a op=f at *
 first | refine zu (A:=x27) rfl rfl rfl rfl ?_ | refine zB (A:=x27) rfl rfl rfl rfl ?_
 simp only [x27,oD,cD,τ,φ,ι]
 (simp only [SQ,zm,AOp.opds,step,Opd.get,zk,bin,zzc,IntKind.signed,zi,zj,zl,zb,unary,ze,zd,za,zo,zr,zh,zf,zg,zp,Cp.isFull,isNil,zq,simprocAttr,-List.reduceReplicate,SQX,V.cells,zn (hF _ _),zn (hB _ _ _),e0,e1,s20,s1,s11,s12,s5,x0g,x0J,xbc,xkf,xiW,xiU,List.take_succ_cons,List.take_zero];repeat' ((first | refine x0G ?_ ?_ | refine x0u ?_ ?_ | refine x0v ?_ ?_)<;>(intro hb;simp only [SQ,zm,AOp.opds,step,Opd.get,zk,bin,zzc,IntKind.signed,zi,zj,zl,zb,unary,ze,zd,za,zo,zr,zh,zf,zg,zp,Cp.isFull,isNil,zq,simprocAttr,-List.reduceReplicate,SQX,V.cells,hb,zn (hF _ _),zn (hB _ _ _),e0,e1,s20,s1,s11,s12,s5,x0g,x0J,xbc,xkf,xiW,xiU,List.take_succ_cons,List.take_zero])))
 all_goals clear hF hB e0 e1 s20 s1 s11 s12 s5
 all_goals simp only [decide_eq_true_eq,decide_eq_false_iff_not] at *
 all_goals simp (config:={ decide:=false }) only [*,if_true,if_false,or_true,true_or,or_self,reduceIte,Int.reduceEq]
 all_goals rfl
end
section
theorem ldE {h:Heap} {n:Option Nat} {cs:List V} {off:Nat}:zl h n (.eptr cs off)=zb n cs off:=rfl
theorem xiL {base:Nat} (l:List (Nat×Nat×Nat)) (s:V) (h:Heap) (hl:l.length<1000) (ho:∀ p∈l,PcOk p) (hs:zk s=some l.length) (hx:∀ i (hi:i<l.length),∃ p,zi h 3 i s=some p∧zl h (some 3) p=some (.agg (pc l[i]))):WpF S0 base x5p [s] h fun v h'=>v=U32 (x15 l)∧h'=h:=by
 first | refine zu (A:=x2T) rfl rfl rfl rfl ?_ | refine zB (A:=x2T) rfl rfl rfl rfl ?_
 simp only [x2T,oD,cD,τ,φ,ι]
 simp only [SQ,SQB,zm,AOp.opds,step,Opd.get,bin,zzc,IntKind.signed,zj,zb,unary,ze,zd,za,zo,zr,zh,zf,zg,zp,Cp.isFull,isNil,zq,simprocAttr,SQX,V.cells,hs]
 refine x1y (fun k en h'=>∃ i:Nat,k=l.length-i∧i≤l.length∧en 8=V.int i∧en 7=V.int l.length∧en 6=s∧en 3=U32 (x15 (l.take i))∧h'=h) l.length ⟨0,rfl,Nat.zero_le _,rfl,rfl,rfl,rfl,rfl⟩ ?_
 rintro k en h' ⟨i,rfl,hi,e8,e7,e6,e3,rfl⟩
 by_cases h1:i<l.length
 ·obtain ⟨p,hp1,hp2⟩:=hx i h1
  have htk:x15 (l.take (i+1))=putN (x15 (l.take i)) l[i].2.1 l[i].2.2 l[i].1:=by
   unfold x15
   rw [List.take_add_one,List.getElem?_eq_getElem h1,List.foldl_append];rfl
  obtain ⟨o1,o2,o3⟩:=ho _ (List.getElem_mem h1)
  have hw:x15 (l.take i)<2 ^ 32:=x8e fun p hp=>ho p (List.mem_of_mem_take hp)
  have hP:=fun base h=>xiF (base:=base) (x15 (l.take i)) l[i].2.1 l[i].2.2 l[i].1 h hw o1 o2 o3
  simp only [SQ,SQB,zm,AOp.opds,step,Opd.get,bin,zzc,IntKind.signed,zj,zb,unary,ze,zd,za,zo,zr,zh,zf,zg,zp,Cp.isFull,isNil,zq,simprocAttr,SQX,V.cells,e8,e7,e6,e3,h1,hp1,hp2,ldE,zn (hP _ _),x1T,List.take_succ_cons,List.take_zero]
  exact ⟨l.length-(i+1),by omega,i+1,rfl,by omega,by rw [x08 (by omega) (by omega)];rfl,by rw [htk]⟩
 ·have:l.take i=l:=List.take_of_length_le (by omega)
  rw [this] at e3
  simp only [SQ,SQB,zm,AOp.opds,step,Opd.get,zk,bin,zzc,IntKind.signed,zi,zj,zl,zb,unary,ze,zd,za,zo,zr,zh,zf,zg,zp,Cp.isFull,isNil,zq,simprocAttr,SQX,V.cells,e8,e7,e6,e3,h1]
theorem xf7 {h:Heap} {t:TypeId} {sz e:Nat} {R:List (List V)}:rowAt (h++[.row t sz e R]) h.length e=some (sz,R):=by
 simp only [rowAt,x2J,if_true]
theorem xa4 {base:Nat} (l:List (Nat×Nat×Nat)) (h:Heap) (e n:Nat) (hn:n=l.length) (hl:l.length<1000) (ho:∀ p∈l,PcOk p):WpF S0 base x5p [.hsl h.length e 0 n] (h++[.row 129 3 e (l.map pc)]) fun v h'=>v=U32 (x15 l)∧h'=h++[.row 129 3 e (l.map pc)]:=by
 subst hn
 refine xiL l _ _ hl ho rfl fun i hi=>?_
 refine ⟨.rptr h.length e (0+i) 0,?_,?_⟩
 ·simp only [zi,xf7]
  rw [if_pos ⟨trivial,hi,by rw [List.length_map];omega⟩]
 ·simp only [zl,xf7,Nat.zero_add,List.getElem?_map,List.getElem?_eq_getElem hi,Option.map_some,Option.bind_some,Option.getD_some]
  rw [if_pos (by simp)]
  rfl
end
section
theorem xgq {h:Heap} {l:List (Nat×Nat×Nat)}:(x5u 3 (RegH h l) (RegV h l)).isSome=true:=by
 cases l with
 | nil=>rfl
 | cons p r =>
  simp only [RegH,RegV,x5u,xf7]
  rw [if_pos ⟨trivial,by simp⟩];rfl
theorem xjr {h:Heap} {l:List (Nat×Nat×Nat)}:x30 3 h (slP l)=some (l.map pc):=by
 cases l with
 | nil=>rfl
 | cons p r=>rfl
theorem xhd {h:Heap} {l:List (Nat×Nat×Nat)}:(RegH h l).take h.length=h:=by
 cases l with
 | nil=>simp [RegH]
 | cons p r=>simp [RegH]
theorem xip {h:Heap} {P Q:List (Nat×Nat×Nat)} (hl:P.length+Q.length<1000) (ho:∀ p∈P++Q,PcOk p):∃ V2 H2,(x30 3 (RegH h P) (slP Q)).bind (fun new=>x1D h.length (RegH h P) 129 3 (RegV h P) new)=some (V2,H2)∧H2.take h.length=h∧∀ base,WpF S0 base x5p [V2] H2 fun v h'=>v=U32 (x15 (P++Q))∧h'=H2:=by
 rw [xjr]
 simp only [Option.bind_some]
 cases Q with
 | nil =>
  rw [List.append_nil] at ho ⊢
  refine ⟨RegV h P,RegH h P,?_,xhd,fun base=>?_⟩
  ·simp only [List.map_nil,x1D]
   obtain ⟨x,hx⟩:=Option.isSome_iff_exists.1 (xgq (h:=h) (l:=P))
   rw [hx];rfl
  ·cases P with
   | nil=>exact xiL [] _ _ (by decide) ho rfl (fun i hi=>absurd hi (by simp))
   | cons p r=>exact xa4 (p::r) h _ _ (by simp) (by simpa using hl) ho
 | cons q s =>
  simp only [List.length_cons] at hl
  rw [xdN (Nat.le_refl _) (by omega)]
  cases P with
  | nil =>
   refine ⟨_,_,rfl,by simp,fun base=>?_⟩
   exact xa4 (q::s) h _ _ (by simp) (by simp at hl ⊢;omega) ho
  | cons p r =>
   refine ⟨_,_,rfl,by simp,fun base=>?_⟩
   have:=xa4 (base:=base) (p::r++q::s) h (r.length+1) (r.length+1+(s.length+1)) (by simp;omega) (by simp at hl ⊢;omega) ho
   rw [List.map_append] at this
   exact this
def xkE (op:Nat) (f:Int):Nat:=if f=1∨f=2 then F (x0k op) 0 7 else x15 [(F (x0k op) 0 7,0,7),(F (x0k op) 12 3,12,3),(F (x0k op) 25 7,25,7)]
def encP (op:Nat) (rd a b v:Nat) (aq rl:Bool):Nat:=xkE op (x0a op) ||| x15 (regP (x0a op) rd a b++immP op (x0a op) v aq rl)
theorem xiz (op f:Int) (v:Nat) (aq rl:Bool) (hv:v<4294967296):∀ p∈immP op f v aq rl,PcOk p:=by
 have h1:bitN aq<2:=by unfold bitN;split<;>decide
 have h2:bitN rl<2:=by unfold bitN;split<;>decide
 unfold immP PcOk
 (repeat' split)<;>simp<;>omega
theorem xiy (f:Int) (rd a b:Nat) (hrd:rd<32) (ha:a<32) (hb:b<32):∀ p∈regP f rd a b,PcOk p:=by
 unfold regP PcOk
 (repeat' split)<;>simp<;>omega
end
section
theorem xjD {base:Nat} (op rd a b imm:Int) (aq rl:Bool) (h:Heap) (h0:-9223372036854775808≤imm) (h1:imm≤9223372036854775807) (hm:mayI op rd a b imm aq rl=false):WpF S0 base x7T [ins op rd a b imm aq rl] h fun v h'=>v=.tup [U32 0,V.int 1]∧h'=h:=by
 have hM:=fun base h=>x8j (base:=base) op rd a b imm aq rl h h0 h1
 rw [hm] at hM
 first | refine zu (A:=x1V) rfl rfl rfl rfl ?_ | refine zB (A:=x1V) rfl rfl rfl rfl ?_
 simp only [x1V,oD,cD,τ,φ,ι]
 simp only [SQ,SQB,zm,AOp.opds,step,Opd.get,zk,bin,zzc,IntKind.signed,zi,zj,zl,zb,unary,ze,zd,za,zo,zr,zh,zf,zg,zp,Cp.isFull,isNil,zq,simprocAttr,-List.reduceReplicate,SQX,V.cells,zn (hM _ _),List.take_succ_cons,List.take_zero]
 rfl
theorem xhk (f:Int) (rd a b:Nat):(regP f rd a b).length≤3:=by
 unfold regP
 cases fA f<;>cases fB f<;>by_cases h:rd=0<;>simp [h]
theorem xhV (op f:Int) (v:Nat) (aq rl:Bool):(immP op f v aq rl).length≤4:=by
 unfold immP
 (repeat' split)<;>simp
set_option maxHeartbeats 2000000 in
theorem xl5 {base:Nat} (op rd a b:Nat) (imm:Int) (aq rl:Bool) (h:Heap) (h0:-9223372036854775808≤imm) (h1:imm≤9223372036854775807) (ho1:1≤op) (ho2:op<88) (hrd:rd<32) (ha:a<32) (hb:b<32) (hm:mayI op rd a b imm aq rl=true):WpF S0 base x7T [ins op rd a b imm aq rl] h fun v h'=>v=.tup [U32 (encP op rd a b (uN imm%4294967296) aq rl),V.int 0]∧h'=h:=by
 have hM:=fun base h=>x8j (base:=base) op rd a b imm aq rl h h0 h1
 rw [hm] at hM
 have hO:=fun base h=>xoB (base:=base) op h ho1 ho2
 have hF:=fun base h=>x4R (base:=base) op h
 have hg:=xl0 (base:=h.length) op imm rd a b aq rl h (Nat.le_refl _) h0 h1 hrd ha hb hm
 have hi:=fun base h=>xmI (base:=base) op rd a b imm aq rl h
 have f1:=F_lt (x0k op) 0 7
 have f2:=F_lt (x0k op) 12 3
 have f3:=F_lt (x0k op) 25 7
 have hp3:∀ p∈[(F (x0k op) 0 7,0,7),(F (x0k op) 12 3,12,3),(F (x0k op) 25 7,25,7)],PcOk p:=by
  unfold PcOk;simp;omega
 have hk:∀ base h,WpF S0 base x5p [.slc .lit 3 [[U32 (F (x0k op) 0 7),.sc (.int .i64 0),.sc (.int .i64 7)],[U32 (F (x0k op) 12 3),.sc (.int .i64 12),.sc (.int .i64 3)],[U32 (F (x0k op) 25 7),.sc (.int .i64 25),.sc (.int .i64 7)]]] h fun v h'=>v=U32 (x15 [(F (x0k op) 0 7,0,7),(F (x0k op) 12 3,12,3),(F (x0k op) 25 7,25,7)])∧h'=h:=fun base h=>xl6 [(F (x0k op) 0 7,0,7),(F (x0k op) 12 3,12,3),(F (x0k op) 25 7,25,7)] .lit h (by simp) hp3
 have hv:uN imm%4294967296<4294967296:=Nat.mod_lt _ (by decide)
 have hall:∀ p∈regP (x0a op) rd a b++immP op (x0a op) (uN imm%4294967296) aq rl,PcOk p:=fun p hp=>by
  rcases List.mem_append.1 hp with q | q
  ·exact xiy _ _ _ _ hrd ha hb p q
  ·exact xiz _ _ _ _ _ hv p q
 have hlen:(regP (x0a op) rd a b).length+(immP op (x0a op) (uN imm%4294967296) aq rl).length<1000:=by
  have:=xhk (x0a op) rd a b
  have:=xhV op (x0a op) (uN imm%4294967296) aq rl
  omega
 obtain ⟨V2,H2,hap,htk,hpk⟩:=xip (h:=h) hlen hall
 have hP:=x8e hall
 have hB3:=x8e hp3
 unfold encP xkE
 revert hg hi hap hpk hP hlen hall
 generalize regP (x0a op) rd a b=P
 generalize uN imm%4294967296=v at *
 generalize immP op (x0a op) v aq rl=Q
 intro hg hi _ _ hap hpk hP
 have hor:=fun x (hx:x<2 ^ 32)=>xaH (a:=x) (b:=x15 (P++Q)) hx hP
 have hor1:=hor _ hB3
 have hor2:=hor (F (x0k op) 0 7) (by omega)
 clear hor hB3 hP hp3 f1 f2 f3
 revert hk hor1
 generalize x15 [(F (x0k op) 0 7,0,7),(F (x0k op) 12 3,12,3),(F (x0k op) 25 7,25,7)]=K
 intro hk hor1
 generalize x15 (P++Q)=N at *
 generalize x0a op=f at *
 first | refine zu (A:=x1V) rfl rfl rfl rfl ?_ | refine zB (A:=x1V) rfl rfl rfl rfl ?_
 simp only [x1V,oD,cD,τ,φ,ι]
 (simp only [SQ,zm,AOp.opds,step,Opd.get,zk,bin,zzc,IntKind.signed,zi,zj,zl,zb,unary,ze,zd,za,zo,zr,zh,zf,zg,zp,Cp.isFull,isNil,zq,simprocAttr,-List.reduceReplicate,SQX,V.cells,zn (hM _ _),zn (hO _ _),zn (hF _ _),zn (hk _ _),zn hg,zn (hi _ _),zn (hpk _),hap,htk,hor1,hor2,x0g,x0J,xbc,xiV,List.take_succ_cons,List.take_zero];repeat' ((first | refine x0G ?_ ?_ | refine x0u ?_ ?_ | refine x0v ?_ ?_)<;>(intro hb;simp only [SQ,zm,AOp.opds,step,Opd.get,zk,bin,zzc,IntKind.signed,zi,zj,zl,zb,unary,ze,zd,za,zo,zr,zh,zf,zg,zp,Cp.isFull,isNil,zq,simprocAttr,-List.reduceReplicate,SQX,V.cells,hb,zn (hM _ _),zn (hO _ _),zn (hF _ _),zn (hk _ _),zn hg,zn (hi _ _),zn (hpk _),hap,htk,hor1,hor2,x0g,x0J,xbc,xiV,List.take_succ_cons,List.take_zero])))
 all_goals clear hM hO hF hk hg hi hpk hap htk hor1 hor2
 ·have c1:¬ f=1:=of_decide_eq_false (by assumption)
  have c2:f=2:=of_decide_eq_true (by assumption)
  rw [if_pos (.inr c2)]
 ·have c1:¬ f=1:=of_decide_eq_false (by assumption)
  have c2:¬ f=2:=of_decide_eq_false (by assumption)
  rw [if_neg (by simp only [c1,c2,or_self,not_false_eq_true])]
 ·have c1:f=1:=of_decide_eq_true (by assumption)
  rw [if_pos (.inl c1)]
end
section
def decP (w:Nat):V:=if mayI (opN w) (prd w (x0a (opN w))) (pA w (x0a (opN w))) (pB w (x0a (opN w))) (immW w (x0a (opN w))) (pAq w (x0a (opN w))) (pRl w (x0a (opN w)))=true∧encP (opN w).toNat (prd w (x0a (opN w))).toNat (pA w (x0a (opN w))).toNat (pB w (x0a (opN w))).toNat (uN (immW w (x0a (opN w)))%4294967296) (pAq w (x0a (opN w))) (pRl w (x0a (opN w)))=w then x9l w (opN w) else ins 0 0 0 0 w false false
theorem xoF (n v:Nat) (hn:n≤30):-9223372036854775808≤S n v∧S n v≤9223372036854775807:=by
 unfold S
 have h1:=Nat.mod_lt v (Nat.two_pow_pos n)
 have h2:=x53 n 30 hn
 have e:(2:Int) ^ n=((2 ^ n:Nat):Int):=by simp
 rw [e]
 split<;>omega
theorem xhU (w:Nat) (f:Int):-9223372036854775808≤immW w f∧immW w f≤9223372036854775807:=by
 unfold immW
 have h1:=F_lt w 20 6
 have h2:=F_lt w 20 5
 have h3:=F_lt w 20 8
 (repeat' split)<;>first | exact xoF _ _ (by decide) | omega
theorem xjA (w:Nat) (f:Int):∃ k:Nat,prd w f=k∧k<32:=by
 unfold prd;split
 ·exact ⟨_,rfl,F_lt w 7 5⟩
 ·exact ⟨0,rfl,by decide⟩
theorem xl8 (w:Nat) (f:Int):∃ k:Nat,pA w f=k∧k<32:=by
 unfold pA;split
 ·exact ⟨_,rfl,F_lt w 15 5⟩
 ·exact ⟨0,rfl,by decide⟩
theorem xl7 (w:Nat) (f:Int):∃ k:Nat,pB w f=k∧k<32:=by
 unfold pB;split
 ·exact ⟨_,rfl,F_lt w 20 5⟩
 ·exact ⟨0,rfl,by decide⟩
theorem xjR {op rd a b imm:Int} {aq rl:Bool} (h:mayI op rd a b imm aq rl=true):1≤op∧op≤87:=by
 refine Classical.byContradiction fun hc=>?_
 have h1:x0a op = -1:=by
  unfold x0a letB
  rw [if_neg hc];rfl
 unfold mayI at h
 rw [h1] at h
 simp at h
set_option maxHeartbeats 1000000 in
theorem xmM {base:Nat} (w:Nat) (h:Heap) (hw:w<2 ^ 32):WpF S0 base xb1 [U32 w] h fun v h'=>v=decP w∧h'=h:=by
 have hO:=fun base h=>op_r (base:=base) w h hw
 have hP:=fun base h=>xjE (base:=base) w (opN w) h hw
 obtain ⟨krd,e1,l1⟩:=xjA w (x0a (opN w))
 obtain ⟨ka,e2,l2⟩:=xl8 w (x0a (opN w))
 obtain ⟨kb,e3,l3⟩:=xl7 w (x0a (opN w))
 obtain ⟨b1,b2⟩:=xhU w (x0a (opN w))
 have ew:IntKind.i64.wrap (w:Int)=w:=x4I (by omega)
 have em:∀ i:Int,x0q [.sc (.int .i64 0),.sc (.int .i64 0),.sc (.int .i64 0),.sc (.int .i64 0),.sc (.int .i64 0),.sc (.bool false),.sc (.bool false)] [(0,1,.sc (.int .i64 0)),(4,1,.sc (.int .i64 i))]=some [.sc (.int .i64 0),.sc (.int .i64 0),.sc (.int .i64 0),.sc (.int .i64 0),.sc (.int .i64 i),.sc (.bool false),.sc (.bool false)]:=fun i=>rfl
 unfold decP
 unfold x9l at hP ⊢
 rw [e1,e2,e3] at hP ⊢
 simp only [Int.toNat_natCast]
 generalize immW w (x0a (opN w))=im at *
 generalize pAq w (x0a (opN w))=aq at *
 generalize pRl w (x0a (opN w))=rl at *
 by_cases hm:mayI (opN w) krd ka kb im aq rl=true
 ·have hr:=xjR hm
  revert hr hm hP hO
  generalize opN w=o
  intro hO hP hm hr
  obtain ⟨n,rfl⟩:∃ n:Nat,o=n:=⟨o.toNat,by omega⟩
  have hE:=fun base h=>xl5 (base:=base) n krd ka kb im aq rl h b1 b2 (by omega) (by omega) l1 l2 l3 hm
  rw [Int.toNat_natCast]
  first | refine zu (A:=x1W) rfl rfl rfl rfl ?_ | refine zB (A:=x1W) rfl rfl rfl rfl ?_
  simp only [x1W,oD,cD,τ,φ,ι]
  by_cases hc:encP n krd ka kb (uN im%4294967296) aq rl=w
  ·rw [if_pos ⟨hm,hc⟩]
   simp only [SQ,SQB,zm,AOp.opds,step,Opd.get,zk,bin,zzc,IntKind.signed,zi,zj,zb,unary,ze,zd,za,zo,zr,zh,zf,zg,zp,Cp.isFull,isNil,zq,simprocAttr,SQX,V.cells,zn (hO _ _),zn (hP _ _),zn (hE _ _),ldE,x0g,em,ew,x2O,x66,x1T,Nat.le_refl,List.take_succ_cons,List.take_zero,hc]
  ·rw [if_neg (fun q=>hc q.2)]
   simp only [SQ,SQB,zm,AOp.opds,step,Opd.get,zk,bin,zzc,IntKind.signed,zi,zj,zb,unary,ze,zd,za,zo,zr,zh,zf,zg,zp,Cp.isFull,isNil,zq,simprocAttr,SQX,V.cells,zn (hO _ _),zn (hP _ _),zn (hE _ _),ldE,x0g,em,ew,x2O,x66,x1T,Nat.le_refl,List.take_succ_cons,List.take_zero,show ¬ ((encP n krd ka kb (uN im%4294967296) aq rl:Nat):Int)=w by omega]
 ·have hE:=fun base h=>xjD (base:=base) (opN w) krd ka kb im aq rl h b1 b2 (by simpa using hm)
  rw [if_neg (fun q=>hm q.1)]
  first | refine zu (A:=x1W) rfl rfl rfl rfl ?_ | refine zB (A:=x1W) rfl rfl rfl rfl ?_
  simp only [x1W,oD,cD,τ,φ,ι]
  simp only [SQ,SQB,zm,AOp.opds,step,Opd.get,zk,bin,zzc,IntKind.signed,zi,zj,zb,unary,ze,zd,za,zo,zr,zh,zf,zg,zp,Cp.isFull,isNil,zq,simprocAttr,SQX,V.cells,zn (hO _ _),zn (hP _ _),zn (hE _ _),ldE,x0g,em,ew,x2O,x66,x1T,Nat.le_refl,List.take_succ_cons,List.take_zero]
end
section
set_option linter.unusedVariables false
theorem Sub.mono {a m k:Nat} (h:Sub a m) (hm:m &&& k=m):Sub a k:=by
 unfold Sub at *
 rw [← h,Nat.and_assoc,hm]
theorem Sub.zero (m:Nat):Sub 0 m:=Nat.zero_and m
theorem xoH (w a n:Nat):w &&& ((2 ^ n-1)*2 ^ a)=F w a n*2 ^ a:=by
 apply Nat.eq_of_testBit_eq
 intro i
 rw [Nat.testBit_and,Nat.testBit_mul_two_pow,Nat.testBit_mul_two_pow,Nat.testBit_two_pow_sub_one,F,Nat.testBit_mod_two_pow,Nat.testBit_div_two_pow]
 by_cases h1:a≤i
 ·by_cases h2:i-a<n<;>simp [h1,h2,show i-a+a=i by omega,show a+(i-a)=i by omega]
 ·simp [h1]
theorem xn7 {w m a n:Nat} (h:Sub w m) (hm:m &&& ((2 ^ n-1)*2 ^ a)=0):F w a n*2 ^ a=0:=by
 rw [← xoH,← h,Nat.and_assoc,hm,Nat.and_zero]
theorem xhn {w m a n v:Nat} (h:Sub w m) (hm:m &&& ((2 ^ n-1)*2 ^ a)=0):putN w a n v=w+F v 0 n*2 ^ a:=by
 unfold putN
 rw [xn7 h hm,Nat.sub_zero]
 simp [F]
theorem uN_S (n v:Nat) (h1:1≤n) (hn:n≤30):uN (S n v)%2 ^ n=v%2 ^ n:=by
 have hp:(0:Nat)<2 ^ n:=Nat.two_pow_pos n
 have hd:∃ k:Nat,18446744073709551616=2 ^ n*k:=⟨2 ^ (64-n),by rw [← Nat.pow_add,show n+(64-n)=64 by omega]⟩
 obtain ⟨k,hk⟩:=hd
 have h2:=Nat.mod_lt v hp
 have h3:=x53 n 30 hn
 have e:(2:Int) ^ n=((2 ^ n:Nat):Int):=by simp
 have hu:uN (S n v)=v%2 ^ n∨uN (S n v)+2 ^ n=v%2 ^ n+18446744073709551616:=by
  unfold S uN
  rw [e]
  split
  ·left;omega
  ·right;omega
 rcases hu with hu | hu
 ·rw [hu,Nat.mod_mod]
 ·have h4:(uN (S n v)+2 ^ n)%2 ^ n=(v%2 ^ n+2 ^ n*k)%2 ^ n:=by rw [hu,← hk]
  rw [Nat.add_mod_right,Nat.add_mul_mod_self_left,Nat.mod_mod] at h4
  exact h4
theorem x3S {x y n:Nat} (a k:Nat) (h:x%2 ^ n=y%2 ^ n) (hk:a+k≤n):F x a k=F y a k:=by
 have e:∀ z:Nat,F z a k=F (z%2 ^ n) a k:=fun z=>by
  apply Nat.eq_of_testBit_eq
  intro i
  unfold F
  rw [Nat.testBit_mod_two_pow,Nat.testBit_mod_two_pow,Nat.testBit_div_two_pow,Nat.testBit_div_two_pow,Nat.testBit_mod_two_pow]
  by_cases hi:i<k
  ·simp [hi,show a+i<n by omega];omega
  ·simp [hi]
 rw [e x,e y,h]
-- PRINTED by wd_genP.py
theorem xlN:∃ f:Nat→Nat→Nat→Nat→Nat,∀ x a n k,f x a n k=F x a n*2 ^ k:=⟨_,fun _ _ _ _=>rfl⟩
noncomputable def fd:Nat→Nat→Nat→Nat→Nat:=Classical.choose xlN
theorem x3m (x a n k:Nat):fd x a n k=F x a n*2 ^ k:=Classical.choose_spec xlN x a n k
theorem x1C (x a n k m:Nat) (hm:(2 ^ n-1)*2 ^ k=m):Sub (fd x a n k) m:=by
 rw [x3m,← hm]
 exact Sub.F x a n k
theorem fd_0 (a n k:Nat):fd 0 a n k=0:=by rw [x3m];simp [F]
theorem fd_F (w a n k:Nat):fd (F w a n) 0 n k=fd w a n k:=by rw [x3m,x3m];unfold F;rw [Nat.pow_zero,Nat.div_one,Nat.mod_mod]
theorem x3Q {x y a b n:Nat} (h:F x a n=F y b n) (k:Nat):fd x a n k=fd y b n k:=by rw [x3m,x3m,h]
theorem x7D (v j n k m:Nat) (h:2 ^ j=m):fd (v/m) 0 n k=fd v j n k:=by rw [x3m,x3m,← h];unfold F;rw [Nat.pow_zero,Nat.div_one]
theorem x0o {w v a n:Nat} {r:List (Nat×Nat×Nat)} {m mm k2:Nat} (h:Sub w m) (hm:(2 ^ n-1)*2 ^ a=mm) (hd:m &&& mm=0) (h2:m ||| mm=k2):((v,a,n)::r).foldl (fun w p=>putN w p.2.1 p.2.2 p.1) w=r.foldl (fun w p=>putN w p.2.1 p.2.2 p.1) (w+fd v 0 n a)∧Sub (w+fd v 0 n a) k2:=by
 subst hm h2
 rw [x3m]
 refine ⟨?_,Sub.add h (Sub.F v 0 n a) hd⟩
 rw [List.foldl_cons,xhn h hd]
theorem x0N {w x m mm k2:Nat} (h:Sub w m) (hx:Sub x mm) (hd:m &&& mm=0) (h2:m ||| mm=k2):w ||| x=w+x∧Sub (w+x) k2:=by
 subst h2
 exact ⟨Sub.sum h hx hd,Sub.add h hx hd⟩
theorem x4l (op rd a b:Nat):encT op rd a b=x0k op ||| fd rd 0 5 7 ||| fd a 0 5 15 ||| fd b 0 5 20:=by
 unfold encT
 simp only [x3m,Nat.reducePow]
theorem xmG (t m:Nat):encU 0 t m=t:=by unfold encU;simp only [Int.reduceEq,if_true,if_false]
theorem xmF (t m:Nat):encU 1 t m=t ||| fd m 0 20 12:=by unfold encU;simp only [Int.reduceEq,if_true,if_false,x3m,Nat.reducePow]
theorem xmE (t m:Nat):encU 2 t m=t ||| fd m 20 1 31 ||| fd m 1 10 21 ||| fd m 11 1 20 ||| fd m 12 8 12:=by unfold encU;simp only [Int.reduceEq,if_true,if_false,x3m,Nat.reducePow]
theorem xj9 (t m:Nat):encU 3 t m=t ||| fd m 0 12 20:=by unfold encU;simp only [Int.reduceEq,if_true,if_false,x3m,Nat.reducePow]
theorem xmD (t m:Nat):encU 4 t m=(t &&& 4294963327) ||| fd m 12 1 31 ||| fd m 5 6 25 ||| fd m 1 4 8 ||| fd m 11 1 7:=by unfold encU;simp only [Int.reduceEq,if_true,if_false,x3m,Nat.reducePow]
theorem xmC (t m:Nat):encU 5 t m=(t &&& 4294963327) ||| fd m 5 7 25 ||| fd m 0 5 7:=by unfold encU;simp only [Int.reduceEq,if_true,if_false,x3m,Nat.reducePow]
theorem xj8 (t m:Nat):encU 6 t m=t:=by unfold encU;simp only [Int.reduceEq,if_true,if_false]
theorem xj7 (t m:Nat):encU 7 t m=t ||| fd m 0 6 20:=by unfold encU;simp only [Int.reduceEq,if_true,if_false,x3m,Nat.reducePow]
theorem xj6 (t m:Nat):encU 8 t m=t ||| fd m 0 5 20:=by unfold encU;simp only [Int.reduceEq,if_true,if_false,x3m,Nat.reducePow]
theorem xmB (t m:Nat):encU 9 t m=t ||| fd m 0 8 20:=by unfold encU;simp only [Int.reduceEq,if_true,if_false,x3m,Nat.reducePow]
theorem xks (t m:Nat):encU 10 t m=t:=by unfold encU;simp only [Int.reduceEq,if_true,if_false]
theorem xkr (t m:Nat):encU 11 t m=t:=by unfold encU;simp only [Int.reduceEq,if_true,if_false]
theorem x40 (f:Int) (t m:Nat):encR f t m false false=encU f t m:=by unfold encR;simp only [if_false,Bool.false_eq_true]
def x7Z (f:Int):Nat:=if f=0 then 1048703 else if f=1 then 127 else if f=2 then 127 else if f=3 then 28799 else if f=4 then 28799 else if f=5 then 28799 else if f=6 then 4261441663 else if f=7 then 4227887231 else if f=8 then 4261441663 else if f=9 then 28799 else if f=10 then 4160778367 else if f=11 then 4160778367 else 0
theorem x4t:∀ op:Nat,op<88→1≤op→Sub (x0k op) (x7Z (x0a op)):=by unfold Sub;decide +kernel
theorem x4J:∀ op:Nat,op<88→1≤op→xkE op (x0a op)=if op=65 then 115 else x0k op:=by decide +kernel
theorem x5P:∀ op:Nat,op<88→1≤op→x0a op≠0→x0k op=F (x0k op) 0 7+F (x0k op) 12 3*4096+F (x0k op) 25 7*33554432:=by decide +kernel
theorem tabZ:∀ op:Nat,op<88→1≤op→x0a op=0→op=64∨op=65:=by decide +kernel
theorem x8o:∀ op:Nat,op<88→1≤op→x0a op≠0→op≠65:=by decide +kernel
theorem tabG:∀ op:Nat,op<88→1≤op→(x0a op=1∨x0a op=2)→F (x0k op) 12 3=0∧F (x0k op) 25 7=0:=by decide +kernel
theorem tabS:∀ op:Nat,op<88→1≤op→(x0a op=3∨x0a op=4∨x0a op=5∨x0a op=9)→F (x0k op) 25 7=0:=by decide +kernel
theorem tab2:∀ op:Nat,op<88→1≤op→x0a op=7→F (x0k op) 25 7%2=0:=by decide +kernel
theorem tab4:∀ op:Nat,op<88→1≤op→(x0a op=10∨x0a op=11)→F (x0k op) 25 7%4=0:=by decide +kernel
theorem tabN:∀ op:Nat,op<88→1≤op→x0a op≠0→F (x0k op) 0 7≠115:=by decide +kernel
theorem opU:∀ op:Nat,op<88→1≤op→(x0a op=1∨x0a op=2)→∀ g:Nat,g<8→∀ s:Nat,s<128→opF (F (x0k op) 0 7) g s 0=op:=by decide +kernel
theorem opI:∀ op:Nat,op<88→1≤op→(x0a op=3∨x0a op=4∨x0a op=5∨x0a op=9)→∀ s:Nat,s<128→opF (F (x0k op) 0 7) (F (x0k op) 12 3) s 0=op:=by decide +kernel
theorem opR:∀ op:Nat,op<88→1≤op→(x0a op=6∨x0a op=8)→opF (F (x0k op) 0 7) (F (x0k op) 12 3) (F (x0k op) 25 7) 0=op:=by decide +kernel
theorem opH:∀ op:Nat,op<88→1≤op→x0a op=7→∀ s:Nat,s<2→opF (F (x0k op) 0 7) (F (x0k op) 12 3) (F (x0k op) 25 7+s) 0=op:=by decide +kernel
theorem opA:∀ op:Nat,op<88→1≤op→(x0a op=10∨x0a op=11)→∀ s:Nat,s<4→opF (F (x0k op) 0 7) (F (x0k op) 12 3) (F (x0k op) 25 7+s) 0=op:=by decide +kernel
theorem x8x (o g s x:Nat) (h:o≠115):opF o g s x=opF o g s 0:=by
 unfold opF
 simp only [show ¬ (o:Int)=115 by omega,if_false]
theorem uN_F (w a n:Nat) (h:n≤32):uN ((F w a n:Nat):Int)=F w a n:=x4v (Nat.lt_of_lt_of_le (F_lt w a n) (Nat.le_trans (x53 n 32 h) (by decide)))
theorem xjo (w a n:Nat) (h:n≤32):uN ((F w a n*2 ^ 0:Nat):Int)=F w a n:=by rw [Nat.pow_zero,Nat.mul_one];exact uN_F w a n h
theorem x57:uN 0=0:=rfl
theorem xaN {x y n:Nat} (h:x%2 ^ n=y%2 ^ n) (hn:n≤32):x%4294967296%2 ^ n=y%2 ^ n:=by
 rw [← h]
 obtain ⟨k,hk⟩:∃ k:Nat,4294967296=2 ^ n*k:=⟨2 ^ (32-n),by rw [← Nat.pow_add,show n+(32-n)=32 by omega]⟩
 rw [hk,Nat.mod_mul_right_mod]
theorem xnn (T rd a b m:Nat) (hT:Sub T 127):(T ||| fd rd 0 5 7 ||| fd 0 0 5 15 ||| fd 0 0 5 20) ||| fd m 0 20 12=T+(fd rd 0 5 7+fd m 0 20 12):=by
 simp only [fd_0,Nat.or_zero]
 have O0:=x0N (w:=T) (x:=fd rd 0 5 7) (m:=127) (mm:=3968) (k2:=4095) hT (x1C rd 0 5 7 3968 (by decide)) (by decide) (by decide)
 have O1:=x0N (w:=T+fd rd 0 5 7) (x:=fd m 0 20 12) (m:=4095) (mm:=4294963200) (k2:=4294967295) O0.2 (x1C m 0 20 12 4294963200 (by decide)) (by decide) (by decide)
 rw [O0.1,O1.1]
 try omega
theorem xnw (T op rd a b v:Nat) (aq rl:Bool) (hT:Sub T 127) (ho:op≠65):T ||| x15 (regP 1 rd 0 0++immP op 1 v aq rl)=T+(fd rd 0 5 7+fd v 0 20 12):=by
 by_cases z:rd=0
 ·have L:regP 1 rd 0 0++immP op 1 v aq rl=[(v,12,20)]:=by
   unfold regP immP
   rw [show fA 1=false by decide,show fB 1=false by decide,if_pos z]
   simp
  have P0:=x0o (w:=0) (v:=v) (a:=12) (n:=20) (r:=[]) (m:=0) (mm:=4294963200) (k2:=4294963200) (Sub.zero 0) (by decide) (by decide) (by decide)
  have P:x15 [(v,12,20)]=0+fd (v) 0 20 12:=by
   unfold x15
   rw [P0.1]
   exact List.foldl_nil
  rw [L,P,Sub.sum hT P0.2 (by decide)]
  rw [z,fd_0]
  try omega
 ·have L:regP 1 rd 0 0++immP op 1 v aq rl=[(rd,7,5),(v,12,20)]:=by
   unfold regP immP
   rw [show fA 1=false by decide,show fB 1=false by decide,if_neg z]
   simp
  have P0:=x0o (w:=0) (v:=rd) (a:=7) (n:=5) (r:=[(v,12,20)]) (m:=0) (mm:=3968) (k2:=3968) (Sub.zero 0) (by decide) (by decide) (by decide)
  have P1:=x0o (w:=0+fd (rd) 0 5 7) (v:=v) (a:=12) (n:=20) (r:=[]) (m:=3968) (mm:=4294963200) (k2:=4294967168) P0.2 (by decide) (by decide) (by decide)
  have P:x15 [(rd,7,5),(v,12,20)]=0+fd (rd) 0 5 7+fd (v) 0 20 12:=by
   unfold x15
   rw [P0.1,P1.1]
   exact List.foldl_nil
  rw [L,P,Sub.sum hT P1.2 (by decide)]
  try omega
theorem xkc (w op:Nat) (h1:1≤op) (h2:op<88) (hf:x0a op=1):encR 1 (encT op (uN (prd w 1)) (uN (pA w 1)) (uN (pB w 1))) (uN (immW w 1)) (pAq w 1) (pRl w 1)=x0k op+(fd w 7 5 7+fd w 12 20 12)∧encP op (prd w 1).toNat (pA w 1).toNat (pB w 1).toNat (uN (immW w 1)%4294967296) (pAq w 1) (pRl w 1)=x0k op+(fd w 7 5 7+fd w 12 20 12):=by
 have hm:=x4t op h2 h1
 have hb:=x4J op h2 h1
 have ho:=x8o op h2 h1 (by rw [hf];decide)
 rw [hf] at hm hb
 rw [if_neg ho] at hb
 rw [show x7Z 1=127 by decide] at hm
 have e1:prd w 1=((F w 7 5:Nat):Int):=by unfold prd;rw [if_pos (show fRd 1=true by decide)]
 have e2:pA w 1=0:=by unfold pA;rw [if_neg (show ¬ fA 1=true by decide)]
 have e3:pB w 1=0:=by unfold pB;rw [if_neg (show ¬ fB 1=true by decide)]
 have mW:immW w 1=S 20 (F w 12 20*2 ^ 0):=by unfold immW;simp only [Int.reduceEq,if_true,if_false]
 have hi:uN (immW w 1)%2 ^ 20=(F w 12 20*2 ^ 0)%2 ^ 20:=by rw [mW];exact uN_S 20 _ (by decide) (by decide)
 have hj:=xaN hi (by decide)
 clear mW
 revert hi hj
 generalize uN (immW w 1)%4294967296=v
 generalize uN (immW w 1)=m
 intro hi hj
 have s12:F (F w 12 20*2 ^ 0) 0 20=F w 12 20:=by
  have:=F_lt w 12 20
  revert this
  generalize F w 12 20=x12
  simp only [F,Nat.reducePow]
  omega
 have i12:fd m 0 20 12=fd w 12 20 12:=x3Q ((x3S 0 20 hi (by decide)).trans s12) 12
 have p12:fd v 0 20 12=fd w 12 20 12:=x3Q ((x3S 0 20 hj (by decide)).trans s12) 12
 have a0:pAq w 1=false:=by unfold pAq;rw [show fO 1=false by decide,Bool.false_and]
 have r0:pRl w 1=false:=by unfold pRl;rw [show fO 1=false by decide,Bool.false_and]
 rw [a0,r0]
 rw [e1,e2,e3,x4l]
 rw [uN_F w 7 5 (by decide)]
 rw [x57]
 constructor
 ·rw [x40,xmF,xnn (x0k op) (F w 7 5) 0 0 m hm]
  simp only [fd_F,i12]
 ·unfold encP
  rw [hf,hb]
  simp only [Int.toNat_natCast,Int.toNat_zero]
  rw [xnw (x0k op) op (F w 7 5) 0 0 v _ _ hm ho]
  simp only [fd_F,p12]
theorem xnm (T rd a b m:Nat) (hT:Sub T 127):(T ||| fd rd 0 5 7 ||| fd 0 0 5 15 ||| fd 0 0 5 20) ||| fd m 20 1 31 ||| fd m 1 10 21 ||| fd m 11 1 20 ||| fd m 12 8 12=T+(fd rd 0 5 7+fd m 20 1 31+fd m 1 10 21+fd m 11 1 20+fd m 12 8 12):=by
 simp only [fd_0,Nat.or_zero]
 have O0:=x0N (w:=T) (x:=fd rd 0 5 7) (m:=127) (mm:=3968) (k2:=4095) hT (x1C rd 0 5 7 3968 (by decide)) (by decide) (by decide)
 have O1:=x0N (w:=T+fd rd 0 5 7) (x:=fd m 20 1 31) (m:=4095) (mm:=2147483648) (k2:=2147487743) O0.2 (x1C m 20 1 31 2147483648 (by decide)) (by decide) (by decide)
 have O2:=x0N (w:=T+fd rd 0 5 7+fd m 20 1 31) (x:=fd m 1 10 21) (m:=2147487743) (mm:=2145386496) (k2:=4292874239) O1.2 (x1C m 1 10 21 2145386496 (by decide)) (by decide) (by decide)
 have O3:=x0N (w:=T+fd rd 0 5 7+fd m 20 1 31+fd m 1 10 21) (x:=fd m 11 1 20) (m:=4292874239) (mm:=1048576) (k2:=4293922815) O2.2 (x1C m 11 1 20 1048576 (by decide)) (by decide) (by decide)
 have O4:=x0N (w:=T+fd rd 0 5 7+fd m 20 1 31+fd m 1 10 21+fd m 11 1 20) (x:=fd m 12 8 12) (m:=4293922815) (mm:=1044480) (k2:=4294967295) O3.2 (x1C m 12 8 12 1044480 (by decide)) (by decide) (by decide)
 rw [O0.1,O1.1,O2.1,O3.1,O4.1]
 try omega
theorem xnv (T op rd a b v:Nat) (aq rl:Bool) (hT:Sub T 127) (ho:op≠65):T ||| x15 (regP 2 rd 0 0++immP op 2 v aq rl)=T+(fd rd 0 5 7+fd v 20 1 31+fd v 1 10 21+fd v 11 1 20+fd v 12 8 12):=by
 by_cases z:rd=0
 ·have L:regP 2 rd 0 0++immP op 2 v aq rl=[(v/1048576,31,1),(v/2,21,10),(v/2048,20,1),(v/4096,12,8)]:=by
   unfold regP immP
   rw [show fA 2=false by decide,show fB 2=false by decide,if_pos z]
   simp
  have P0:=x0o (w:=0) (v:=v/1048576) (a:=31) (n:=1) (r:=[(v/2,21,10),(v/2048,20,1),(v/4096,12,8)]) (m:=0) (mm:=2147483648) (k2:=2147483648) (Sub.zero 0) (by decide) (by decide) (by decide)
  have P1:=x0o (w:=0+fd (v/1048576) 0 1 31) (v:=v/2) (a:=21) (n:=10) (r:=[(v/2048,20,1),(v/4096,12,8)]) (m:=2147483648) (mm:=2145386496) (k2:=4292870144) P0.2 (by decide) (by decide) (by decide)
  have P2:=x0o (w:=0+fd (v/1048576) 0 1 31+fd (v/2) 0 10 21) (v:=v/2048) (a:=20) (n:=1) (r:=[(v/4096,12,8)]) (m:=4292870144) (mm:=1048576) (k2:=4293918720) P1.2 (by decide) (by decide) (by decide)
  have P3:=x0o (w:=0+fd (v/1048576) 0 1 31+fd (v/2) 0 10 21+fd (v/2048) 0 1 20) (v:=v/4096) (a:=12) (n:=8) (r:=[]) (m:=4293918720) (mm:=1044480) (k2:=4294963200) P2.2 (by decide) (by decide) (by decide)
  have P:x15 [(v/1048576,31,1),(v/2,21,10),(v/2048,20,1),(v/4096,12,8)]=0+fd (v/1048576) 0 1 31+fd (v/2) 0 10 21+fd (v/2048) 0 1 20+fd (v/4096) 0 8 12:=by
   unfold x15
   rw [P0.1,P1.1,P2.1,P3.1]
   exact List.foldl_nil
  rw [L,P,Sub.sum hT P3.2 (by decide)]
  rw [x7D v 20 1 31 1048576 (by decide)]
  rw [x7D v 1 10 21 2 (by decide)]
  rw [x7D v 11 1 20 2048 (by decide)]
  rw [x7D v 12 8 12 4096 (by decide)]
  rw [z,fd_0]
  try omega
 ·have L:regP 2 rd 0 0++immP op 2 v aq rl=[(rd,7,5),(v/1048576,31,1),(v/2,21,10),(v/2048,20,1),(v/4096,12,8)]:=by
   unfold regP immP
   rw [show fA 2=false by decide,show fB 2=false by decide,if_neg z]
   simp
  have P0:=x0o (w:=0) (v:=rd) (a:=7) (n:=5) (r:=[(v/1048576,31,1),(v/2,21,10),(v/2048,20,1),(v/4096,12,8)]) (m:=0) (mm:=3968) (k2:=3968) (Sub.zero 0) (by decide) (by decide) (by decide)
  have P1:=x0o (w:=0+fd (rd) 0 5 7) (v:=v/1048576) (a:=31) (n:=1) (r:=[(v/2,21,10),(v/2048,20,1),(v/4096,12,8)]) (m:=3968) (mm:=2147483648) (k2:=2147487616) P0.2 (by decide) (by decide) (by decide)
  have P2:=x0o (w:=0+fd (rd) 0 5 7+fd (v/1048576) 0 1 31) (v:=v/2) (a:=21) (n:=10) (r:=[(v/2048,20,1),(v/4096,12,8)]) (m:=2147487616) (mm:=2145386496) (k2:=4292874112) P1.2 (by decide) (by decide) (by decide)
  have P3:=x0o (w:=0+fd (rd) 0 5 7+fd (v/1048576) 0 1 31+fd (v/2) 0 10 21) (v:=v/2048) (a:=20) (n:=1) (r:=[(v/4096,12,8)]) (m:=4292874112) (mm:=1048576) (k2:=4293922688) P2.2 (by decide) (by decide) (by decide)
  have P4:=x0o (w:=0+fd (rd) 0 5 7+fd (v/1048576) 0 1 31+fd (v/2) 0 10 21+fd (v/2048) 0 1 20) (v:=v/4096) (a:=12) (n:=8) (r:=[]) (m:=4293922688) (mm:=1044480) (k2:=4294967168) P3.2 (by decide) (by decide) (by decide)
  have P:x15 [(rd,7,5),(v/1048576,31,1),(v/2,21,10),(v/2048,20,1),(v/4096,12,8)]=0+fd (rd) 0 5 7+fd (v/1048576) 0 1 31+fd (v/2) 0 10 21+fd (v/2048) 0 1 20+fd (v/4096) 0 8 12:=by
   unfold x15
   rw [P0.1,P1.1,P2.1,P3.1,P4.1]
   exact List.foldl_nil
  rw [L,P,Sub.sum hT P4.2 (by decide)]
  rw [x7D v 20 1 31 1048576 (by decide)]
  rw [x7D v 1 10 21 2 (by decide)]
  rw [x7D v 11 1 20 2048 (by decide)]
  rw [x7D v 12 8 12 4096 (by decide)]
  try omega
theorem xkb (w op:Nat) (h1:1≤op) (h2:op<88) (hf:x0a op=2):encR 2 (encT op (uN (prd w 2)) (uN (pA w 2)) (uN (pB w 2))) (uN (immW w 2)) (pAq w 2) (pRl w 2)=x0k op+(fd w 7 5 7+fd w 31 1 31+fd w 21 10 21+fd w 20 1 20+fd w 12 8 12)∧encP op (prd w 2).toNat (pA w 2).toNat (pB w 2).toNat (uN (immW w 2)%4294967296) (pAq w 2) (pRl w 2)=x0k op+(fd w 7 5 7+fd w 31 1 31+fd w 21 10 21+fd w 20 1 20+fd w 12 8 12):=by
 have hm:=x4t op h2 h1
 have hb:=x4J op h2 h1
 have ho:=x8o op h2 h1 (by rw [hf];decide)
 rw [hf] at hm hb
 rw [if_neg ho] at hb
 rw [show x7Z 2=127 by decide] at hm
 have e1:prd w 2=((F w 7 5:Nat):Int):=by unfold prd;rw [if_pos (show fRd 2=true by decide)]
 have e2:pA w 2=0:=by unfold pA;rw [if_neg (show ¬ fA 2=true by decide)]
 have e3:pB w 2=0:=by unfold pB;rw [if_neg (show ¬ fB 2=true by decide)]
 have mW:immW w 2=S 21 (bJ w):=by unfold immW;simp only [Int.reduceEq,if_true,if_false]
 have hi:uN (immW w 2)%2 ^ 21=(bJ w)%2 ^ 21:=by rw [mW];exact uN_S 21 _ (by decide) (by decide)
 have hj:=xaN hi (by decide)
 clear mW
 revert hi hj
 generalize uN (immW w 2)%4294967296=v
 generalize uN (immW w 2)=m
 intro hi hj
 have s31:F (bJ w) 20 1=F w 31 1:=by
  unfold bJ
  have:=F_lt w 31 1
  revert this
  generalize F w 31 1=x31
  have:=F_lt w 21 10
  revert this
  generalize F w 21 10=x21
  have:=F_lt w 20 1
  revert this
  generalize F w 20 1=x20
  have:=F_lt w 12 8
  revert this
  generalize F w 12 8=x12
  simp only [F,Nat.reducePow]
  omega
 have i31:fd m 20 1 31=fd w 31 1 31:=x3Q ((x3S 20 1 hi (by decide)).trans s31) 31
 have p31:fd v 20 1 31=fd w 31 1 31:=x3Q ((x3S 20 1 hj (by decide)).trans s31) 31
 have s21:F (bJ w) 1 10=F w 21 10:=by
  unfold bJ
  have:=F_lt w 31 1
  revert this
  generalize F w 31 1=x31
  have:=F_lt w 21 10
  revert this
  generalize F w 21 10=x21
  have:=F_lt w 20 1
  revert this
  generalize F w 20 1=x20
  have:=F_lt w 12 8
  revert this
  generalize F w 12 8=x12
  simp only [F,Nat.reducePow]
  omega
 have i21:fd m 1 10 21=fd w 21 10 21:=x3Q ((x3S 1 10 hi (by decide)).trans s21) 21
 have p21:fd v 1 10 21=fd w 21 10 21:=x3Q ((x3S 1 10 hj (by decide)).trans s21) 21
 have s20:F (bJ w) 11 1=F w 20 1:=by
  unfold bJ
  have:=F_lt w 31 1
  revert this
  generalize F w 31 1=x31
  have:=F_lt w 21 10
  revert this
  generalize F w 21 10=x21
  have:=F_lt w 20 1
  revert this
  generalize F w 20 1=x20
  have:=F_lt w 12 8
  revert this
  generalize F w 12 8=x12
  simp only [F,Nat.reducePow]
  omega
 have i20:fd m 11 1 20=fd w 20 1 20:=x3Q ((x3S 11 1 hi (by decide)).trans s20) 20
 have p20:fd v 11 1 20=fd w 20 1 20:=x3Q ((x3S 11 1 hj (by decide)).trans s20) 20
 have s12:F (bJ w) 12 8=F w 12 8:=by
  unfold bJ
  have:=F_lt w 31 1
  revert this
  generalize F w 31 1=x31
  have:=F_lt w 21 10
  revert this
  generalize F w 21 10=x21
  have:=F_lt w 20 1
  revert this
  generalize F w 20 1=x20
  have:=F_lt w 12 8
  revert this
  generalize F w 12 8=x12
  simp only [F,Nat.reducePow]
  omega
 have i12:fd m 12 8 12=fd w 12 8 12:=x3Q ((x3S 12 8 hi (by decide)).trans s12) 12
 have p12:fd v 12 8 12=fd w 12 8 12:=x3Q ((x3S 12 8 hj (by decide)).trans s12) 12
 have a0:pAq w 2=false:=by unfold pAq;rw [show fO 2=false by decide,Bool.false_and]
 have r0:pRl w 2=false:=by unfold pRl;rw [show fO 2=false by decide,Bool.false_and]
 rw [a0,r0]
 rw [e1,e2,e3,x4l]
 rw [uN_F w 7 5 (by decide)]
 rw [x57]
 constructor
 ·rw [x40,xmE,xnm (x0k op) (F w 7 5) 0 0 m hm]
  simp only [fd_F,i31,i21,i20,i12]
 ·unfold encP
  rw [hf,hb]
  simp only [Int.toNat_natCast,Int.toNat_zero]
  rw [xnv (x0k op) op (F w 7 5) 0 0 v _ _ hm ho]
  simp only [fd_F,p31,p21,p20,p12]
theorem xle (T rd a b m:Nat) (hT:Sub T 28799):(T ||| fd rd 0 5 7 ||| fd a 0 5 15 ||| fd 0 0 5 20) ||| fd m 0 12 20=T+(fd rd 0 5 7+fd a 0 5 15+fd m 0 12 20):=by
 simp only [fd_0,Nat.or_zero]
 have O0:=x0N (w:=T) (x:=fd rd 0 5 7) (m:=28799) (mm:=3968) (k2:=32767) hT (x1C rd 0 5 7 3968 (by decide)) (by decide) (by decide)
 have O1:=x0N (w:=T+fd rd 0 5 7) (x:=fd a 0 5 15) (m:=32767) (mm:=1015808) (k2:=1048575) O0.2 (x1C a 0 5 15 1015808 (by decide)) (by decide) (by decide)
 have O2:=x0N (w:=T+fd rd 0 5 7+fd a 0 5 15) (x:=fd m 0 12 20) (m:=1048575) (mm:=4293918720) (k2:=4294967295) O1.2 (x1C m 0 12 20 4293918720 (by decide)) (by decide) (by decide)
 rw [O0.1,O1.1,O2.1]
 try omega
theorem xnu (T op rd a b v:Nat) (aq rl:Bool) (hT:Sub T 28799) (ho:op≠65):T ||| x15 (regP 3 rd a 0++immP op 3 v aq rl)=T+(fd rd 0 5 7+fd a 0 5 15+fd v 0 12 20):=by
 by_cases z:rd=0
 ·have L:regP 3 rd a 0++immP op 3 v aq rl=[(a,15,5),(v,20,12)]:=by
   unfold regP immP
   rw [show fA 3=true by decide,show fB 3=false by decide,if_pos z]
   simp
  have P0:=x0o (w:=0) (v:=a) (a:=15) (n:=5) (r:=[(v,20,12)]) (m:=0) (mm:=1015808) (k2:=1015808) (Sub.zero 0) (by decide) (by decide) (by decide)
  have P1:=x0o (w:=0+fd (a) 0 5 15) (v:=v) (a:=20) (n:=12) (r:=[]) (m:=1015808) (mm:=4293918720) (k2:=4294934528) P0.2 (by decide) (by decide) (by decide)
  have P:x15 [(a,15,5),(v,20,12)]=0+fd (a) 0 5 15+fd (v) 0 12 20:=by
   unfold x15
   rw [P0.1,P1.1]
   exact List.foldl_nil
  rw [L,P,Sub.sum hT P1.2 (by decide)]
  rw [z,fd_0]
  try omega
 ·have L:regP 3 rd a 0++immP op 3 v aq rl=[(a,15,5),(rd,7,5),(v,20,12)]:=by
   unfold regP immP
   rw [show fA 3=true by decide,show fB 3=false by decide,if_neg z]
   simp
  have P0:=x0o (w:=0) (v:=a) (a:=15) (n:=5) (r:=[(rd,7,5),(v,20,12)]) (m:=0) (mm:=1015808) (k2:=1015808) (Sub.zero 0) (by decide) (by decide) (by decide)
  have P1:=x0o (w:=0+fd (a) 0 5 15) (v:=rd) (a:=7) (n:=5) (r:=[(v,20,12)]) (m:=1015808) (mm:=3968) (k2:=1019776) P0.2 (by decide) (by decide) (by decide)
  have P2:=x0o (w:=0+fd (a) 0 5 15+fd (rd) 0 5 7) (v:=v) (a:=20) (n:=12) (r:=[]) (m:=1019776) (mm:=4293918720) (k2:=4294938496) P1.2 (by decide) (by decide) (by decide)
  have P:x15 [(a,15,5),(rd,7,5),(v,20,12)]=0+fd (a) 0 5 15+fd (rd) 0 5 7+fd (v) 0 12 20:=by
   unfold x15
   rw [P0.1,P1.1,P2.1]
   exact List.foldl_nil
  rw [L,P,Sub.sum hT P2.2 (by decide)]
  try omega
theorem xka (w op:Nat) (h1:1≤op) (h2:op<88) (hf:x0a op=3):encR 3 (encT op (uN (prd w 3)) (uN (pA w 3)) (uN (pB w 3))) (uN (immW w 3)) (pAq w 3) (pRl w 3)=x0k op+(fd w 7 5 7+fd w 15 5 15+fd w 20 12 20)∧encP op (prd w 3).toNat (pA w 3).toNat (pB w 3).toNat (uN (immW w 3)%4294967296) (pAq w 3) (pRl w 3)=x0k op+(fd w 7 5 7+fd w 15 5 15+fd w 20 12 20):=by
 have hm:=x4t op h2 h1
 have hb:=x4J op h2 h1
 have ho:=x8o op h2 h1 (by rw [hf];decide)
 rw [hf] at hm hb
 rw [if_neg ho] at hb
 rw [show x7Z 3=28799 by decide] at hm
 have e1:prd w 3=((F w 7 5:Nat):Int):=by unfold prd;rw [if_pos (show fRd 3=true by decide)]
 have e2:pA w 3=((F w 15 5:Nat):Int):=by unfold pA;rw [if_pos (show fA 3=true by decide)]
 have e3:pB w 3=0:=by unfold pB;rw [if_neg (show ¬ fB 3=true by decide)]
 have mW:immW w 3=S 12 (F w 20 12*2 ^ 0):=by unfold immW;simp only [Int.reduceEq,if_true,if_false]
 have hi:uN (immW w 3)%2 ^ 12=(F w 20 12*2 ^ 0)%2 ^ 12:=by rw [mW];exact uN_S 12 _ (by decide) (by decide)
 have hj:=xaN hi (by decide)
 clear mW
 revert hi hj
 generalize uN (immW w 3)%4294967296=v
 generalize uN (immW w 3)=m
 intro hi hj
 have s20:F (F w 20 12*2 ^ 0) 0 12=F w 20 12:=by
  have:=F_lt w 20 12
  revert this
  generalize F w 20 12=x20
  simp only [F,Nat.reducePow]
  omega
 have i20:fd m 0 12 20=fd w 20 12 20:=x3Q ((x3S 0 12 hi (by decide)).trans s20) 20
 have p20:fd v 0 12 20=fd w 20 12 20:=x3Q ((x3S 0 12 hj (by decide)).trans s20) 20
 have a0:pAq w 3=false:=by unfold pAq;rw [show fO 3=false by decide,Bool.false_and]
 have r0:pRl w 3=false:=by unfold pRl;rw [show fO 3=false by decide,Bool.false_and]
 rw [a0,r0]
 rw [e1,e2,e3,x4l]
 rw [uN_F w 7 5 (by decide)]
 rw [uN_F w 15 5 (by decide)]
 rw [x57]
 constructor
 ·rw [x40,xj9,xle (x0k op) (F w 7 5) (F w 15 5) 0 m hm]
  simp only [fd_F,i20]
 ·unfold encP
  rw [hf,hb]
  simp only [Int.toNat_natCast,Int.toNat_zero]
  rw [xnu (x0k op) op (F w 7 5) (F w 15 5) 0 v _ _ hm ho]
  simp only [fd_F,p20]
theorem xnl (T rd a b m:Nat) (hT:Sub T 28799):((T ||| fd 0 0 5 7 ||| fd a 0 5 15 ||| fd b 0 5 20) &&& 4294963327) ||| fd m 12 1 31 ||| fd m 5 6 25 ||| fd m 1 4 8 ||| fd m 11 1 7=T+(fd a 0 5 15+fd b 0 5 20+fd m 12 1 31+fd m 5 6 25+fd m 1 4 8+fd m 11 1 7):=by
 simp only [fd_0,Nat.or_zero]
 have O0:=x0N (w:=T) (x:=fd a 0 5 15) (m:=28799) (mm:=1015808) (k2:=1044607) hT (x1C a 0 5 15 1015808 (by decide)) (by decide) (by decide)
 have O1:=x0N (w:=T+fd a 0 5 15) (x:=fd b 0 5 20) (m:=1044607) (mm:=32505856) (k2:=33550463) O0.2 (x1C b 0 5 20 32505856 (by decide)) (by decide) (by decide)
 have O2:=x0N (w:=T+fd a 0 5 15+fd b 0 5 20) (x:=fd m 12 1 31) (m:=33550463) (mm:=2147483648) (k2:=2181034111) O1.2 (x1C m 12 1 31 2147483648 (by decide)) (by decide) (by decide)
 have O3:=x0N (w:=T+fd a 0 5 15+fd b 0 5 20+fd m 12 1 31) (x:=fd m 5 6 25) (m:=2181034111) (mm:=2113929216) (k2:=4294963327) O2.2 (x1C m 5 6 25 2113929216 (by decide)) (by decide) (by decide)
 have O4:=x0N (w:=T+fd a 0 5 15+fd b 0 5 20+fd m 12 1 31+fd m 5 6 25) (x:=fd m 1 4 8) (m:=4294963327) (mm:=3840) (k2:=4294967167) O3.2 (x1C m 1 4 8 3840 (by decide)) (by decide) (by decide)
 have O5:=x0N (w:=T+fd a 0 5 15+fd b 0 5 20+fd m 12 1 31+fd m 5 6 25+fd m 1 4 8) (x:=fd m 11 1 7) (m:=4294967167) (mm:=128) (k2:=4294967295) O4.2 (x1C m 11 1 7 128 (by decide)) (by decide) (by decide)
 rw [O0.1,O1.1,show (T+fd a 0 5 15+fd b 0 5 20) &&& 4294963327=T+fd a 0 5 15+fd b 0 5 20 from Sub.mono O1.2 (by decide),O2.1,O3.1,O4.1,O5.1]
 try omega
theorem xnt (T op rd a b v:Nat) (aq rl:Bool) (hT:Sub T 28799) (ho:op≠65):T ||| x15 (regP 4 0 a b++immP op 4 v aq rl)=T+(fd a 0 5 15+fd b 0 5 20+fd v 12 1 31+fd v 5 6 25+fd v 1 4 8+fd v 11 1 7):=by
 have L:regP 4 0 a b++immP op 4 v aq rl=[(a,15,5),(b,20,5),(v/4096,31,1),(v/32,25,6),(v/2,8,4),(v/2048,7,1)]:=by
  unfold regP immP
  rw [show fA 4=true by decide,show fB 4=true by decide]
  simp
 have P0:=x0o (w:=0) (v:=a) (a:=15) (n:=5) (r:=[(b,20,5),(v/4096,31,1),(v/32,25,6),(v/2,8,4),(v/2048,7,1)]) (m:=0) (mm:=1015808) (k2:=1015808) (Sub.zero 0) (by decide) (by decide) (by decide)
 have P1:=x0o (w:=0+fd (a) 0 5 15) (v:=b) (a:=20) (n:=5) (r:=[(v/4096,31,1),(v/32,25,6),(v/2,8,4),(v/2048,7,1)]) (m:=1015808) (mm:=32505856) (k2:=33521664) P0.2 (by decide) (by decide) (by decide)
 have P2:=x0o (w:=0+fd (a) 0 5 15+fd (b) 0 5 20) (v:=v/4096) (a:=31) (n:=1) (r:=[(v/32,25,6),(v/2,8,4),(v/2048,7,1)]) (m:=33521664) (mm:=2147483648) (k2:=2181005312) P1.2 (by decide) (by decide) (by decide)
 have P3:=x0o (w:=0+fd (a) 0 5 15+fd (b) 0 5 20+fd (v/4096) 0 1 31) (v:=v/32) (a:=25) (n:=6) (r:=[(v/2,8,4),(v/2048,7,1)]) (m:=2181005312) (mm:=2113929216) (k2:=4294934528) P2.2 (by decide) (by decide) (by decide)
 have P4:=x0o (w:=0+fd (a) 0 5 15+fd (b) 0 5 20+fd (v/4096) 0 1 31+fd (v/32) 0 6 25) (v:=v/2) (a:=8) (n:=4) (r:=[(v/2048,7,1)]) (m:=4294934528) (mm:=3840) (k2:=4294938368) P3.2 (by decide) (by decide) (by decide)
 have P5:=x0o (w:=0+fd (a) 0 5 15+fd (b) 0 5 20+fd (v/4096) 0 1 31+fd (v/32) 0 6 25+fd (v/2) 0 4 8) (v:=v/2048) (a:=7) (n:=1) (r:=[]) (m:=4294938368) (mm:=128) (k2:=4294938496) P4.2 (by decide) (by decide) (by decide)
 have P:x15 [(a,15,5),(b,20,5),(v/4096,31,1),(v/32,25,6),(v/2,8,4),(v/2048,7,1)]=0+fd (a) 0 5 15+fd (b) 0 5 20+fd (v/4096) 0 1 31+fd (v/32) 0 6 25+fd (v/2) 0 4 8+fd (v/2048) 0 1 7:=by
  unfold x15
  rw [P0.1,P1.1,P2.1,P3.1,P4.1,P5.1]
  exact List.foldl_nil
 rw [L,P,Sub.sum hT P5.2 (by decide)]
 rw [x7D v 12 1 31 4096 (by decide)]
 rw [x7D v 5 6 25 32 (by decide)]
 rw [x7D v 1 4 8 2 (by decide)]
 rw [x7D v 11 1 7 2048 (by decide)]
 try omega
theorem xk9 (w op:Nat) (h1:1≤op) (h2:op<88) (hf:x0a op=4):encR 4 (encT op (uN (prd w 4)) (uN (pA w 4)) (uN (pB w 4))) (uN (immW w 4)) (pAq w 4) (pRl w 4)=x0k op+(fd w 15 5 15+fd w 20 5 20+fd w 31 1 31+fd w 25 6 25+fd w 8 4 8+fd w 7 1 7)∧encP op (prd w 4).toNat (pA w 4).toNat (pB w 4).toNat (uN (immW w 4)%4294967296) (pAq w 4) (pRl w 4)=x0k op+(fd w 15 5 15+fd w 20 5 20+fd w 31 1 31+fd w 25 6 25+fd w 8 4 8+fd w 7 1 7):=by
 have hm:=x4t op h2 h1
 have hb:=x4J op h2 h1
 have ho:=x8o op h2 h1 (by rw [hf];decide)
 rw [hf] at hm hb
 rw [if_neg ho] at hb
 rw [show x7Z 4=28799 by decide] at hm
 have e1:prd w 4=0:=by unfold prd;rw [if_neg (show ¬ fRd 4=true by decide)]
 have e2:pA w 4=((F w 15 5:Nat):Int):=by unfold pA;rw [if_pos (show fA 4=true by decide)]
 have e3:pB w 4=((F w 20 5:Nat):Int):=by unfold pB;rw [if_pos (show fB 4=true by decide)]
 have mW:immW w 4=S 13 (bB w):=by unfold immW;simp only [Int.reduceEq,if_true,if_false]
 have hi:uN (immW w 4)%2 ^ 13=(bB w)%2 ^ 13:=by rw [mW];exact uN_S 13 _ (by decide) (by decide)
 have hj:=xaN hi (by decide)
 clear mW
 revert hi hj
 generalize uN (immW w 4)%4294967296=v
 generalize uN (immW w 4)=m
 intro hi hj
 have s31:F (bB w) 12 1=F w 31 1:=by
  unfold bB
  have:=F_lt w 31 1
  revert this
  generalize F w 31 1=x31
  have:=F_lt w 25 6
  revert this
  generalize F w 25 6=x25
  have:=F_lt w 8 4
  revert this
  generalize F w 8 4=x8
  have:=F_lt w 7 1
  revert this
  generalize F w 7 1=x7
  simp only [F,Nat.reducePow]
  omega
 have i31:fd m 12 1 31=fd w 31 1 31:=x3Q ((x3S 12 1 hi (by decide)).trans s31) 31
 have p31:fd v 12 1 31=fd w 31 1 31:=x3Q ((x3S 12 1 hj (by decide)).trans s31) 31
 have s25:F (bB w) 5 6=F w 25 6:=by
  unfold bB
  have:=F_lt w 31 1
  revert this
  generalize F w 31 1=x31
  have:=F_lt w 25 6
  revert this
  generalize F w 25 6=x25
  have:=F_lt w 8 4
  revert this
  generalize F w 8 4=x8
  have:=F_lt w 7 1
  revert this
  generalize F w 7 1=x7
  simp only [F,Nat.reducePow]
  omega
 have i25:fd m 5 6 25=fd w 25 6 25:=x3Q ((x3S 5 6 hi (by decide)).trans s25) 25
 have p25:fd v 5 6 25=fd w 25 6 25:=x3Q ((x3S 5 6 hj (by decide)).trans s25) 25
 have s8:F (bB w) 1 4=F w 8 4:=by
  unfold bB
  have:=F_lt w 31 1
  revert this
  generalize F w 31 1=x31
  have:=F_lt w 25 6
  revert this
  generalize F w 25 6=x25
  have:=F_lt w 8 4
  revert this
  generalize F w 8 4=x8
  have:=F_lt w 7 1
  revert this
  generalize F w 7 1=x7
  simp only [F,Nat.reducePow]
  omega
 have i8:fd m 1 4 8=fd w 8 4 8:=x3Q ((x3S 1 4 hi (by decide)).trans s8) 8
 have p8:fd v 1 4 8=fd w 8 4 8:=x3Q ((x3S 1 4 hj (by decide)).trans s8) 8
 have s7:F (bB w) 11 1=F w 7 1:=by
  unfold bB
  have:=F_lt w 31 1
  revert this
  generalize F w 31 1=x31
  have:=F_lt w 25 6
  revert this
  generalize F w 25 6=x25
  have:=F_lt w 8 4
  revert this
  generalize F w 8 4=x8
  have:=F_lt w 7 1
  revert this
  generalize F w 7 1=x7
  simp only [F,Nat.reducePow]
  omega
 have i7:fd m 11 1 7=fd w 7 1 7:=x3Q ((x3S 11 1 hi (by decide)).trans s7) 7
 have p7:fd v 11 1 7=fd w 7 1 7:=x3Q ((x3S 11 1 hj (by decide)).trans s7) 7
 have a0:pAq w 4=false:=by unfold pAq;rw [show fO 4=false by decide,Bool.false_and]
 have r0:pRl w 4=false:=by unfold pRl;rw [show fO 4=false by decide,Bool.false_and]
 rw [a0,r0]
 rw [e1,e2,e3,x4l]
 rw [x57]
 rw [uN_F w 15 5 (by decide)]
 rw [uN_F w 20 5 (by decide)]
 constructor
 ·rw [x40,xmD,xnl (x0k op) 0 (F w 15 5) (F w 20 5) m hm]
  simp only [fd_F,i31,i25,i8,i7]
 ·unfold encP
  rw [hf,hb]
  simp only [Int.toNat_natCast,Int.toNat_zero]
  rw [xnt (x0k op) op 0 (F w 15 5) (F w 20 5) v _ _ hm ho]
  simp only [fd_F,p31,p25,p8,p7]
theorem xnk (T rd a b m:Nat) (hT:Sub T 28799):((T ||| fd 0 0 5 7 ||| fd a 0 5 15 ||| fd b 0 5 20) &&& 4294963327) ||| fd m 5 7 25 ||| fd m 0 5 7=T+(fd a 0 5 15+fd b 0 5 20+fd m 5 7 25+fd m 0 5 7):=by
 simp only [fd_0,Nat.or_zero]
 have O0:=x0N (w:=T) (x:=fd a 0 5 15) (m:=28799) (mm:=1015808) (k2:=1044607) hT (x1C a 0 5 15 1015808 (by decide)) (by decide) (by decide)
 have O1:=x0N (w:=T+fd a 0 5 15) (x:=fd b 0 5 20) (m:=1044607) (mm:=32505856) (k2:=33550463) O0.2 (x1C b 0 5 20 32505856 (by decide)) (by decide) (by decide)
 have O2:=x0N (w:=T+fd a 0 5 15+fd b 0 5 20) (x:=fd m 5 7 25) (m:=33550463) (mm:=4261412864) (k2:=4294963327) O1.2 (x1C m 5 7 25 4261412864 (by decide)) (by decide) (by decide)
 have O3:=x0N (w:=T+fd a 0 5 15+fd b 0 5 20+fd m 5 7 25) (x:=fd m 0 5 7) (m:=4294963327) (mm:=3968) (k2:=4294967295) O2.2 (x1C m 0 5 7 3968 (by decide)) (by decide) (by decide)
 rw [O0.1,O1.1,show (T+fd a 0 5 15+fd b 0 5 20) &&& 4294963327=T+fd a 0 5 15+fd b 0 5 20 from Sub.mono O1.2 (by decide),O2.1,O3.1]
 try omega
theorem xns (T op rd a b v:Nat) (aq rl:Bool) (hT:Sub T 28799) (ho:op≠65):T ||| x15 (regP 5 0 a b++immP op 5 v aq rl)=T+(fd a 0 5 15+fd b 0 5 20+fd v 5 7 25+fd v 0 5 7):=by
 have L:regP 5 0 a b++immP op 5 v aq rl=[(a,15,5),(b,20,5),(v/32,25,7),(v,7,5)]:=by
  unfold regP immP
  rw [show fA 5=true by decide,show fB 5=true by decide]
  simp
 have P0:=x0o (w:=0) (v:=a) (a:=15) (n:=5) (r:=[(b,20,5),(v/32,25,7),(v,7,5)]) (m:=0) (mm:=1015808) (k2:=1015808) (Sub.zero 0) (by decide) (by decide) (by decide)
 have P1:=x0o (w:=0+fd (a) 0 5 15) (v:=b) (a:=20) (n:=5) (r:=[(v/32,25,7),(v,7,5)]) (m:=1015808) (mm:=32505856) (k2:=33521664) P0.2 (by decide) (by decide) (by decide)
 have P2:=x0o (w:=0+fd (a) 0 5 15+fd (b) 0 5 20) (v:=v/32) (a:=25) (n:=7) (r:=[(v,7,5)]) (m:=33521664) (mm:=4261412864) (k2:=4294934528) P1.2 (by decide) (by decide) (by decide)
 have P3:=x0o (w:=0+fd (a) 0 5 15+fd (b) 0 5 20+fd (v/32) 0 7 25) (v:=v) (a:=7) (n:=5) (r:=[]) (m:=4294934528) (mm:=3968) (k2:=4294938496) P2.2 (by decide) (by decide) (by decide)
 have P:x15 [(a,15,5),(b,20,5),(v/32,25,7),(v,7,5)]=0+fd (a) 0 5 15+fd (b) 0 5 20+fd (v/32) 0 7 25+fd (v) 0 5 7:=by
  unfold x15
  rw [P0.1,P1.1,P2.1,P3.1]
  exact List.foldl_nil
 rw [L,P,Sub.sum hT P3.2 (by decide)]
 rw [x7D v 5 7 25 32 (by decide)]
 try omega
theorem xk8 (w op:Nat) (h1:1≤op) (h2:op<88) (hf:x0a op=5):encR 5 (encT op (uN (prd w 5)) (uN (pA w 5)) (uN (pB w 5))) (uN (immW w 5)) (pAq w 5) (pRl w 5)=x0k op+(fd w 15 5 15+fd w 20 5 20+fd w 25 7 25+fd w 7 5 7)∧encP op (prd w 5).toNat (pA w 5).toNat (pB w 5).toNat (uN (immW w 5)%4294967296) (pAq w 5) (pRl w 5)=x0k op+(fd w 15 5 15+fd w 20 5 20+fd w 25 7 25+fd w 7 5 7):=by
 have hm:=x4t op h2 h1
 have hb:=x4J op h2 h1
 have ho:=x8o op h2 h1 (by rw [hf];decide)
 rw [hf] at hm hb
 rw [if_neg ho] at hb
 rw [show x7Z 5=28799 by decide] at hm
 have e1:prd w 5=0:=by unfold prd;rw [if_neg (show ¬ fRd 5=true by decide)]
 have e2:pA w 5=((F w 15 5:Nat):Int):=by unfold pA;rw [if_pos (show fA 5=true by decide)]
 have e3:pB w 5=((F w 20 5:Nat):Int):=by unfold pB;rw [if_pos (show fB 5=true by decide)]
 have mW:immW w 5=S 12 (bS w):=by unfold immW;simp only [Int.reduceEq,if_true,if_false]
 have hi:uN (immW w 5)%2 ^ 12=(bS w)%2 ^ 12:=by rw [mW];exact uN_S 12 _ (by decide) (by decide)
 have hj:=xaN hi (by decide)
 clear mW
 revert hi hj
 generalize uN (immW w 5)%4294967296=v
 generalize uN (immW w 5)=m
 intro hi hj
 have s25:F (bS w) 5 7=F w 25 7:=by
  unfold bS
  have:=F_lt w 25 7
  revert this
  generalize F w 25 7=x25
  have:=F_lt w 7 5
  revert this
  generalize F w 7 5=x7
  simp only [F,Nat.reducePow]
  omega
 have i25:fd m 5 7 25=fd w 25 7 25:=x3Q ((x3S 5 7 hi (by decide)).trans s25) 25
 have p25:fd v 5 7 25=fd w 25 7 25:=x3Q ((x3S 5 7 hj (by decide)).trans s25) 25
 have s7:F (bS w) 0 5=F w 7 5:=by
  unfold bS
  have:=F_lt w 25 7
  revert this
  generalize F w 25 7=x25
  have:=F_lt w 7 5
  revert this
  generalize F w 7 5=x7
  simp only [F,Nat.reducePow]
  omega
 have i7:fd m 0 5 7=fd w 7 5 7:=x3Q ((x3S 0 5 hi (by decide)).trans s7) 7
 have p7:fd v 0 5 7=fd w 7 5 7:=x3Q ((x3S 0 5 hj (by decide)).trans s7) 7
 have a0:pAq w 5=false:=by unfold pAq;rw [show fO 5=false by decide,Bool.false_and]
 have r0:pRl w 5=false:=by unfold pRl;rw [show fO 5=false by decide,Bool.false_and]
 rw [a0,r0]
 rw [e1,e2,e3,x4l]
 rw [x57]
 rw [uN_F w 15 5 (by decide)]
 rw [uN_F w 20 5 (by decide)]
 constructor
 ·rw [x40,xmC,xnk (x0k op) 0 (F w 15 5) (F w 20 5) m hm]
  simp only [fd_F,i25,i7]
 ·unfold encP
  rw [hf,hb]
  simp only [Int.toNat_natCast,Int.toNat_zero]
  rw [xns (x0k op) op 0 (F w 15 5) (F w 20 5) v _ _ hm ho]
  simp only [fd_F,p25,p7]
theorem xld (T rd a b m:Nat) (hT:Sub T 4261441663):(T ||| fd rd 0 5 7 ||| fd a 0 5 15 ||| fd b 0 5 20)=T+(fd rd 0 5 7+fd a 0 5 15+fd b 0 5 20):=by
 have O0:=x0N (w:=T) (x:=fd rd 0 5 7) (m:=4261441663) (mm:=3968) (k2:=4261445631) hT (x1C rd 0 5 7 3968 (by decide)) (by decide) (by decide)
 have O1:=x0N (w:=T+fd rd 0 5 7) (x:=fd a 0 5 15) (m:=4261445631) (mm:=1015808) (k2:=4262461439) O0.2 (x1C a 0 5 15 1015808 (by decide)) (by decide) (by decide)
 have O2:=x0N (w:=T+fd rd 0 5 7+fd a 0 5 15) (x:=fd b 0 5 20) (m:=4262461439) (mm:=32505856) (k2:=4294967295) O1.2 (x1C b 0 5 20 32505856 (by decide)) (by decide) (by decide)
 rw [O0.1,O1.1,O2.1]
 try omega
theorem xnr (T op rd a b v:Nat) (aq rl:Bool) (hT:Sub T 4261441663) (ho:op≠65):T ||| x15 (regP 6 rd a b++immP op 6 v aq rl)=T+(fd rd 0 5 7+fd a 0 5 15+fd b 0 5 20):=by
 by_cases z:rd=0
 ·have L:regP 6 rd a b++immP op 6 v aq rl=[(a,15,5),(b,20,5)]:=by
   unfold regP immP
   rw [show fA 6=true by decide,show fB 6=true by decide,if_pos z]
   simp [show ¬ ((op:Int)=65) by omega]
  have P0:=x0o (w:=0) (v:=a) (a:=15) (n:=5) (r:=[(b,20,5)]) (m:=0) (mm:=1015808) (k2:=1015808) (Sub.zero 0) (by decide) (by decide) (by decide)
  have P1:=x0o (w:=0+fd (a) 0 5 15) (v:=b) (a:=20) (n:=5) (r:=[]) (m:=1015808) (mm:=32505856) (k2:=33521664) P0.2 (by decide) (by decide) (by decide)
  have P:x15 [(a,15,5),(b,20,5)]=0+fd (a) 0 5 15+fd (b) 0 5 20:=by
   unfold x15
   rw [P0.1,P1.1]
   exact List.foldl_nil
  rw [L,P,Sub.sum hT P1.2 (by decide)]
  rw [z,fd_0]
  try omega
 ·have L:regP 6 rd a b++immP op 6 v aq rl=[(a,15,5),(b,20,5),(rd,7,5)]:=by
   unfold regP immP
   rw [show fA 6=true by decide,show fB 6=true by decide,if_neg z]
   simp [show ¬ ((op:Int)=65) by omega]
  have P0:=x0o (w:=0) (v:=a) (a:=15) (n:=5) (r:=[(b,20,5),(rd,7,5)]) (m:=0) (mm:=1015808) (k2:=1015808) (Sub.zero 0) (by decide) (by decide) (by decide)
  have P1:=x0o (w:=0+fd (a) 0 5 15) (v:=b) (a:=20) (n:=5) (r:=[(rd,7,5)]) (m:=1015808) (mm:=32505856) (k2:=33521664) P0.2 (by decide) (by decide) (by decide)
  have P2:=x0o (w:=0+fd (a) 0 5 15+fd (b) 0 5 20) (v:=rd) (a:=7) (n:=5) (r:=[]) (m:=33521664) (mm:=3968) (k2:=33525632) P1.2 (by decide) (by decide) (by decide)
  have P:x15 [(a,15,5),(b,20,5),(rd,7,5)]=0+fd (a) 0 5 15+fd (b) 0 5 20+fd (rd) 0 5 7:=by
   unfold x15
   rw [P0.1,P1.1,P2.1]
   exact List.foldl_nil
  rw [L,P,Sub.sum hT P2.2 (by decide)]
  try omega
theorem xk7 (w op:Nat) (h1:1≤op) (h2:op<88) (hf:x0a op=6):encR 6 (encT op (uN (prd w 6)) (uN (pA w 6)) (uN (pB w 6))) (uN (immW w 6)) (pAq w 6) (pRl w 6)=x0k op+(fd w 7 5 7+fd w 15 5 15+fd w 20 5 20)∧encP op (prd w 6).toNat (pA w 6).toNat (pB w 6).toNat (uN (immW w 6)%4294967296) (pAq w 6) (pRl w 6)=x0k op+(fd w 7 5 7+fd w 15 5 15+fd w 20 5 20):=by
 have hm:=x4t op h2 h1
 have hb:=x4J op h2 h1
 have ho:=x8o op h2 h1 (by rw [hf];decide)
 rw [hf] at hm hb
 rw [if_neg ho] at hb
 rw [show x7Z 6=4261441663 by decide] at hm
 have e1:prd w 6=((F w 7 5:Nat):Int):=by unfold prd;rw [if_pos (show fRd 6=true by decide)]
 have e2:pA w 6=((F w 15 5:Nat):Int):=by unfold pA;rw [if_pos (show fA 6=true by decide)]
 have e3:pB w 6=((F w 20 5:Nat):Int):=by unfold pB;rw [if_pos (show fB 6=true by decide)]
 generalize uN (immW w 6)%4294967296=v
 generalize uN (immW w 6)=m
 have a0:pAq w 6=false:=by unfold pAq;rw [show fO 6=false by decide,Bool.false_and]
 have r0:pRl w 6=false:=by unfold pRl;rw [show fO 6=false by decide,Bool.false_and]
 rw [a0,r0]
 rw [e1,e2,e3,x4l]
 rw [uN_F w 7 5 (by decide)]
 rw [uN_F w 15 5 (by decide)]
 rw [uN_F w 20 5 (by decide)]
 constructor
 ·rw [x40,xj8,xld (x0k op) (F w 7 5) (F w 15 5) (F w 20 5) m hm]
  simp only [fd_F]
 ·unfold encP
  rw [hf,hb]
  simp only [Int.toNat_natCast,Int.toNat_zero]
  rw [xnr (x0k op) op (F w 7 5) (F w 15 5) (F w 20 5) v _ _ hm ho]
  simp only [fd_F]
theorem xlc (T rd a b m:Nat) (hT:Sub T 4227887231):(T ||| fd rd 0 5 7 ||| fd a 0 5 15 ||| fd 0 0 5 20) ||| fd m 0 6 20=T+(fd rd 0 5 7+fd a 0 5 15+fd m 0 6 20):=by
 simp only [fd_0,Nat.or_zero]
 have O0:=x0N (w:=T) (x:=fd rd 0 5 7) (m:=4227887231) (mm:=3968) (k2:=4227891199) hT (x1C rd 0 5 7 3968 (by decide)) (by decide) (by decide)
 have O1:=x0N (w:=T+fd rd 0 5 7) (x:=fd a 0 5 15) (m:=4227891199) (mm:=1015808) (k2:=4228907007) O0.2 (x1C a 0 5 15 1015808 (by decide)) (by decide) (by decide)
 have O2:=x0N (w:=T+fd rd 0 5 7+fd a 0 5 15) (x:=fd m 0 6 20) (m:=4228907007) (mm:=66060288) (k2:=4294967295) O1.2 (x1C m 0 6 20 66060288 (by decide)) (by decide) (by decide)
 rw [O0.1,O1.1,O2.1]
 try omega
theorem xnq (T op rd a b v:Nat) (aq rl:Bool) (hT:Sub T 4227887231) (ho:op≠65):T ||| x15 (regP 7 rd a 0++immP op 7 v aq rl)=T+(fd rd 0 5 7+fd a 0 5 15+fd v 0 6 20):=by
 by_cases z:rd=0
 ·have L:regP 7 rd a 0++immP op 7 v aq rl=[(a,15,5),(v,20,6)]:=by
   unfold regP immP
   rw [show fA 7=true by decide,show fB 7=false by decide,if_pos z]
   simp
  have P0:=x0o (w:=0) (v:=a) (a:=15) (n:=5) (r:=[(v,20,6)]) (m:=0) (mm:=1015808) (k2:=1015808) (Sub.zero 0) (by decide) (by decide) (by decide)
  have P1:=x0o (w:=0+fd (a) 0 5 15) (v:=v) (a:=20) (n:=6) (r:=[]) (m:=1015808) (mm:=66060288) (k2:=67076096) P0.2 (by decide) (by decide) (by decide)
  have P:x15 [(a,15,5),(v,20,6)]=0+fd (a) 0 5 15+fd (v) 0 6 20:=by
   unfold x15
   rw [P0.1,P1.1]
   exact List.foldl_nil
  rw [L,P,Sub.sum hT P1.2 (by decide)]
  rw [z,fd_0]
  try omega
 ·have L:regP 7 rd a 0++immP op 7 v aq rl=[(a,15,5),(rd,7,5),(v,20,6)]:=by
   unfold regP immP
   rw [show fA 7=true by decide,show fB 7=false by decide,if_neg z]
   simp
  have P0:=x0o (w:=0) (v:=a) (a:=15) (n:=5) (r:=[(rd,7,5),(v,20,6)]) (m:=0) (mm:=1015808) (k2:=1015808) (Sub.zero 0) (by decide) (by decide) (by decide)
  have P1:=x0o (w:=0+fd (a) 0 5 15) (v:=rd) (a:=7) (n:=5) (r:=[(v,20,6)]) (m:=1015808) (mm:=3968) (k2:=1019776) P0.2 (by decide) (by decide) (by decide)
  have P2:=x0o (w:=0+fd (a) 0 5 15+fd (rd) 0 5 7) (v:=v) (a:=20) (n:=6) (r:=[]) (m:=1019776) (mm:=66060288) (k2:=67080064) P1.2 (by decide) (by decide) (by decide)
  have P:x15 [(a,15,5),(rd,7,5),(v,20,6)]=0+fd (a) 0 5 15+fd (rd) 0 5 7+fd (v) 0 6 20:=by
   unfold x15
   rw [P0.1,P1.1,P2.1]
   exact List.foldl_nil
  rw [L,P,Sub.sum hT P2.2 (by decide)]
  try omega
theorem xk6 (w op:Nat) (h1:1≤op) (h2:op<88) (hf:x0a op=7):encR 7 (encT op (uN (prd w 7)) (uN (pA w 7)) (uN (pB w 7))) (uN (immW w 7)) (pAq w 7) (pRl w 7)=x0k op+(fd w 7 5 7+fd w 15 5 15+fd w 20 6 20)∧encP op (prd w 7).toNat (pA w 7).toNat (pB w 7).toNat (uN (immW w 7)%4294967296) (pAq w 7) (pRl w 7)=x0k op+(fd w 7 5 7+fd w 15 5 15+fd w 20 6 20):=by
 have hm:=x4t op h2 h1
 have hb:=x4J op h2 h1
 have ho:=x8o op h2 h1 (by rw [hf];decide)
 rw [hf] at hm hb
 rw [if_neg ho] at hb
 rw [show x7Z 7=4227887231 by decide] at hm
 have e1:prd w 7=((F w 7 5:Nat):Int):=by unfold prd;rw [if_pos (show fRd 7=true by decide)]
 have e2:pA w 7=((F w 15 5:Nat):Int):=by unfold pA;rw [if_pos (show fA 7=true by decide)]
 have e3:pB w 7=0:=by unfold pB;rw [if_neg (show ¬ fB 7=true by decide)]
 have mW:immW w 7=((F w 20 6*2 ^ 0:Nat):Int):=by unfold immW;simp only [Int.reduceEq,if_true,if_false]
 have hi:uN (immW w 7)%2 ^ 6=(F w 20 6*2 ^ 0)%2 ^ 6:=by rw [mW,xjo w _ _ (by decide),Nat.pow_zero,Nat.mul_one]
 have hj:=xaN hi (by decide)
 clear mW
 revert hi hj
 generalize uN (immW w 7)%4294967296=v
 generalize uN (immW w 7)=m
 intro hi hj
 have s20:F (F w 20 6*2 ^ 0) 0 6=F w 20 6:=by
  have:=F_lt w 20 6
  revert this
  generalize F w 20 6=x20
  simp only [F,Nat.reducePow]
  omega
 have i20:fd m 0 6 20=fd w 20 6 20:=x3Q ((x3S 0 6 hi (by decide)).trans s20) 20
 have p20:fd v 0 6 20=fd w 20 6 20:=x3Q ((x3S 0 6 hj (by decide)).trans s20) 20
 have a0:pAq w 7=false:=by unfold pAq;rw [show fO 7=false by decide,Bool.false_and]
 have r0:pRl w 7=false:=by unfold pRl;rw [show fO 7=false by decide,Bool.false_and]
 rw [a0,r0]
 rw [e1,e2,e3,x4l]
 rw [uN_F w 7 5 (by decide)]
 rw [uN_F w 15 5 (by decide)]
 rw [x57]
 constructor
 ·rw [x40,xj7,xlc (x0k op) (F w 7 5) (F w 15 5) 0 m hm]
  simp only [fd_F,i20]
 ·unfold encP
  rw [hf,hb]
  simp only [Int.toNat_natCast,Int.toNat_zero]
  rw [xnq (x0k op) op (F w 7 5) (F w 15 5) 0 v _ _ hm ho]
  simp only [fd_F,p20]
theorem xlb (T rd a b m:Nat) (hT:Sub T 4261441663):(T ||| fd rd 0 5 7 ||| fd a 0 5 15 ||| fd 0 0 5 20) ||| fd m 0 5 20=T+(fd rd 0 5 7+fd a 0 5 15+fd m 0 5 20):=by
 simp only [fd_0,Nat.or_zero]
 have O0:=x0N (w:=T) (x:=fd rd 0 5 7) (m:=4261441663) (mm:=3968) (k2:=4261445631) hT (x1C rd 0 5 7 3968 (by decide)) (by decide) (by decide)
 have O1:=x0N (w:=T+fd rd 0 5 7) (x:=fd a 0 5 15) (m:=4261445631) (mm:=1015808) (k2:=4262461439) O0.2 (x1C a 0 5 15 1015808 (by decide)) (by decide) (by decide)
 have O2:=x0N (w:=T+fd rd 0 5 7+fd a 0 5 15) (x:=fd m 0 5 20) (m:=4262461439) (mm:=32505856) (k2:=4294967295) O1.2 (x1C m 0 5 20 32505856 (by decide)) (by decide) (by decide)
 rw [O0.1,O1.1,O2.1]
 try omega
theorem xnp (T op rd a b v:Nat) (aq rl:Bool) (hT:Sub T 4261441663) (ho:op≠65):T ||| x15 (regP 8 rd a 0++immP op 8 v aq rl)=T+(fd rd 0 5 7+fd a 0 5 15+fd v 0 5 20):=by
 by_cases z:rd=0
 ·have L:regP 8 rd a 0++immP op 8 v aq rl=[(a,15,5),(v,20,5)]:=by
   unfold regP immP
   rw [show fA 8=true by decide,show fB 8=false by decide,if_pos z]
   simp
  have P0:=x0o (w:=0) (v:=a) (a:=15) (n:=5) (r:=[(v,20,5)]) (m:=0) (mm:=1015808) (k2:=1015808) (Sub.zero 0) (by decide) (by decide) (by decide)
  have P1:=x0o (w:=0+fd (a) 0 5 15) (v:=v) (a:=20) (n:=5) (r:=[]) (m:=1015808) (mm:=32505856) (k2:=33521664) P0.2 (by decide) (by decide) (by decide)
  have P:x15 [(a,15,5),(v,20,5)]=0+fd (a) 0 5 15+fd (v) 0 5 20:=by
   unfold x15
   rw [P0.1,P1.1]
   exact List.foldl_nil
  rw [L,P,Sub.sum hT P1.2 (by decide)]
  rw [z,fd_0]
  try omega
 ·have L:regP 8 rd a 0++immP op 8 v aq rl=[(a,15,5),(rd,7,5),(v,20,5)]:=by
   unfold regP immP
   rw [show fA 8=true by decide,show fB 8=false by decide,if_neg z]
   simp
  have P0:=x0o (w:=0) (v:=a) (a:=15) (n:=5) (r:=[(rd,7,5),(v,20,5)]) (m:=0) (mm:=1015808) (k2:=1015808) (Sub.zero 0) (by decide) (by decide) (by decide)
  have P1:=x0o (w:=0+fd (a) 0 5 15) (v:=rd) (a:=7) (n:=5) (r:=[(v,20,5)]) (m:=1015808) (mm:=3968) (k2:=1019776) P0.2 (by decide) (by decide) (by decide)
  have P2:=x0o (w:=0+fd (a) 0 5 15+fd (rd) 0 5 7) (v:=v) (a:=20) (n:=5) (r:=[]) (m:=1019776) (mm:=32505856) (k2:=33525632) P1.2 (by decide) (by decide) (by decide)
  have P:x15 [(a,15,5),(rd,7,5),(v,20,5)]=0+fd (a) 0 5 15+fd (rd) 0 5 7+fd (v) 0 5 20:=by
   unfold x15
   rw [P0.1,P1.1,P2.1]
   exact List.foldl_nil
  rw [L,P,Sub.sum hT P2.2 (by decide)]
  try omega
theorem xk5 (w op:Nat) (h1:1≤op) (h2:op<88) (hf:x0a op=8):encR 8 (encT op (uN (prd w 8)) (uN (pA w 8)) (uN (pB w 8))) (uN (immW w 8)) (pAq w 8) (pRl w 8)=x0k op+(fd w 7 5 7+fd w 15 5 15+fd w 20 5 20)∧encP op (prd w 8).toNat (pA w 8).toNat (pB w 8).toNat (uN (immW w 8)%4294967296) (pAq w 8) (pRl w 8)=x0k op+(fd w 7 5 7+fd w 15 5 15+fd w 20 5 20):=by
 have hm:=x4t op h2 h1
 have hb:=x4J op h2 h1
 have ho:=x8o op h2 h1 (by rw [hf];decide)
 rw [hf] at hm hb
 rw [if_neg ho] at hb
 rw [show x7Z 8=4261441663 by decide] at hm
 have e1:prd w 8=((F w 7 5:Nat):Int):=by unfold prd;rw [if_pos (show fRd 8=true by decide)]
 have e2:pA w 8=((F w 15 5:Nat):Int):=by unfold pA;rw [if_pos (show fA 8=true by decide)]
 have e3:pB w 8=0:=by unfold pB;rw [if_neg (show ¬ fB 8=true by decide)]
 have mW:immW w 8=((F w 20 5*2 ^ 0:Nat):Int):=by unfold immW;simp only [Int.reduceEq,if_true,if_false]
 have hi:uN (immW w 8)%2 ^ 5=(F w 20 5*2 ^ 0)%2 ^ 5:=by rw [mW,xjo w _ _ (by decide),Nat.pow_zero,Nat.mul_one]
 have hj:=xaN hi (by decide)
 clear mW
 revert hi hj
 generalize uN (immW w 8)%4294967296=v
 generalize uN (immW w 8)=m
 intro hi hj
 have s20:F (F w 20 5*2 ^ 0) 0 5=F w 20 5:=by
  have:=F_lt w 20 5
  revert this
  generalize F w 20 5=x20
  simp only [F,Nat.reducePow]
  omega
 have i20:fd m 0 5 20=fd w 20 5 20:=x3Q ((x3S 0 5 hi (by decide)).trans s20) 20
 have p20:fd v 0 5 20=fd w 20 5 20:=x3Q ((x3S 0 5 hj (by decide)).trans s20) 20
 have a0:pAq w 8=false:=by unfold pAq;rw [show fO 8=false by decide,Bool.false_and]
 have r0:pRl w 8=false:=by unfold pRl;rw [show fO 8=false by decide,Bool.false_and]
 rw [a0,r0]
 rw [e1,e2,e3,x4l]
 rw [uN_F w 7 5 (by decide)]
 rw [uN_F w 15 5 (by decide)]
 rw [x57]
 constructor
 ·rw [x40,xj6,xlb (x0k op) (F w 7 5) (F w 15 5) 0 m hm]
  simp only [fd_F,i20]
 ·unfold encP
  rw [hf,hb]
  simp only [Int.toNat_natCast,Int.toNat_zero]
  rw [xnp (x0k op) op (F w 7 5) (F w 15 5) 0 v _ _ hm ho]
  simp only [fd_F,p20]
theorem xnj (T rd a b m:Nat) (hT:Sub T 28799):(T ||| fd 0 0 5 7 ||| fd 0 0 5 15 ||| fd 0 0 5 20) ||| fd m 0 8 20=T+(fd m 0 8 20):=by
 simp only [fd_0,Nat.or_zero]
 have O0:=x0N (w:=T) (x:=fd m 0 8 20) (m:=28799) (mm:=267386880) (k2:=267415679) hT (x1C m 0 8 20 267386880 (by decide)) (by decide) (by decide)
 rw [O0.1]
 try omega
theorem xno (T op rd a b v:Nat) (aq rl:Bool) (hT:Sub T 28799) (ho:op≠65):T ||| x15 (regP 9 0 0 0++immP op 9 v aq rl)=T+(fd v 0 8 20):=by
 have L:regP 9 0 0 0++immP op 9 v aq rl=[(v,20,8)]:=by
  unfold regP immP
  rw [show fA 9=false by decide,show fB 9=false by decide]
  simp
 have P0:=x0o (w:=0) (v:=v) (a:=20) (n:=8) (r:=[]) (m:=0) (mm:=267386880) (k2:=267386880) (Sub.zero 0) (by decide) (by decide) (by decide)
 have P:x15 [(v,20,8)]=0+fd (v) 0 8 20:=by
  unfold x15
  rw [P0.1]
  exact List.foldl_nil
 rw [L,P,Sub.sum hT P0.2 (by decide)]
 try omega
theorem xk4 (w op:Nat) (h1:1≤op) (h2:op<88) (hf:x0a op=9):encR 9 (encT op (uN (prd w 9)) (uN (pA w 9)) (uN (pB w 9))) (uN (immW w 9)) (pAq w 9) (pRl w 9)=x0k op+(fd w 20 8 20)∧encP op (prd w 9).toNat (pA w 9).toNat (pB w 9).toNat (uN (immW w 9)%4294967296) (pAq w 9) (pRl w 9)=x0k op+(fd w 20 8 20):=by
 have hm:=x4t op h2 h1
 have hb:=x4J op h2 h1
 have ho:=x8o op h2 h1 (by rw [hf];decide)
 rw [hf] at hm hb
 rw [if_neg ho] at hb
 rw [show x7Z 9=28799 by decide] at hm
 have e1:prd w 9=0:=by unfold prd;rw [if_neg (show ¬ fRd 9=true by decide)]
 have e2:pA w 9=0:=by unfold pA;rw [if_neg (show ¬ fA 9=true by decide)]
 have e3:pB w 9=0:=by unfold pB;rw [if_neg (show ¬ fB 9=true by decide)]
 have mW:immW w 9=((F w 20 8*2 ^ 0:Nat):Int):=by unfold immW;simp only [Int.reduceEq,if_true,if_false]
 have hi:uN (immW w 9)%2 ^ 8=(F w 20 8*2 ^ 0)%2 ^ 8:=by rw [mW,xjo w _ _ (by decide),Nat.pow_zero,Nat.mul_one]
 have hj:=xaN hi (by decide)
 clear mW
 revert hi hj
 generalize uN (immW w 9)%4294967296=v
 generalize uN (immW w 9)=m
 intro hi hj
 have s20:F (F w 20 8*2 ^ 0) 0 8=F w 20 8:=by
  have:=F_lt w 20 8
  revert this
  generalize F w 20 8=x20
  simp only [F,Nat.reducePow]
  omega
 have i20:fd m 0 8 20=fd w 20 8 20:=x3Q ((x3S 0 8 hi (by decide)).trans s20) 20
 have p20:fd v 0 8 20=fd w 20 8 20:=x3Q ((x3S 0 8 hj (by decide)).trans s20) 20
 have a0:pAq w 9=false:=by unfold pAq;rw [show fO 9=false by decide,Bool.false_and]
 have r0:pRl w 9=false:=by unfold pRl;rw [show fO 9=false by decide,Bool.false_and]
 rw [a0,r0]
 rw [e1,e2,e3,x4l]
 rw [x57]
 constructor
 ·rw [x40,xmB,xnj (x0k op) 0 0 0 m hm]
  simp only [i20]
 ·unfold encP
  rw [hf,hb]
  simp only [Int.toNat_natCast,Int.toNat_zero]
  rw [xno (x0k op) op 0 0 0 v _ _ hm ho]
  simp only [p20]
theorem xlg (T rd a b m aq rl:Nat) (hT:Sub T 4160778367):(T ||| fd rd 0 5 7 ||| fd a 0 5 15 ||| fd 0 0 5 20) ||| fd aq 0 1 26 ||| fd rl 0 1 25=T+(fd rd 0 5 7+fd a 0 5 15+fd aq 0 1 26+fd rl 0 1 25):=by
 simp only [fd_0,Nat.or_zero]
 have O0:=x0N (w:=T) (x:=fd rd 0 5 7) (m:=4160778367) (mm:=3968) (k2:=4160782335) hT (x1C rd 0 5 7 3968 (by decide)) (by decide) (by decide)
 have O1:=x0N (w:=T+fd rd 0 5 7) (x:=fd a 0 5 15) (m:=4160782335) (mm:=1015808) (k2:=4161798143) O0.2 (x1C a 0 5 15 1015808 (by decide)) (by decide) (by decide)
 have O2:=x0N (w:=T+fd rd 0 5 7+fd a 0 5 15) (x:=fd aq 0 1 26) (m:=4161798143) (mm:=67108864) (k2:=4228907007) O1.2 (x1C aq 0 1 26 67108864 (by decide)) (by decide) (by decide)
 have O3:=x0N (w:=T+fd rd 0 5 7+fd a 0 5 15+fd aq 0 1 26) (x:=fd rl 0 1 25) (m:=4228907007) (mm:=33554432) (k2:=4262461439) O2.2 (x1C rl 0 1 25 33554432 (by decide)) (by decide) (by decide)
 rw [O0.1,O1.1,O2.1,O3.1]
 try omega
theorem xli (T op rd a b v:Nat) (aq rl:Bool) (hT:Sub T 4160778367) (ho:op≠65):T ||| x15 (regP 10 rd a 0++immP op 10 v aq rl)=T+(fd rd 0 5 7+fd a 0 5 15+fd (bitN aq) 0 1 26+fd (bitN rl) 0 1 25):=by
 by_cases z:rd=0
 ·have L:regP 10 rd a 0++immP op 10 v aq rl=[(a,15,5),(bitN aq,26,1),(bitN rl,25,1)]:=by
   unfold regP immP
   rw [show fA 10=true by decide,show fB 10=false by decide,if_pos z]
   simp
  have P0:=x0o (w:=0) (v:=a) (a:=15) (n:=5) (r:=[(bitN aq,26,1),(bitN rl,25,1)]) (m:=0) (mm:=1015808) (k2:=1015808) (Sub.zero 0) (by decide) (by decide) (by decide)
  have P1:=x0o (w:=0+fd (a) 0 5 15) (v:=bitN aq) (a:=26) (n:=1) (r:=[(bitN rl,25,1)]) (m:=1015808) (mm:=67108864) (k2:=68124672) P0.2 (by decide) (by decide) (by decide)
  have P2:=x0o (w:=0+fd (a) 0 5 15+fd (bitN aq) 0 1 26) (v:=bitN rl) (a:=25) (n:=1) (r:=[]) (m:=68124672) (mm:=33554432) (k2:=101679104) P1.2 (by decide) (by decide) (by decide)
  have P:x15 [(a,15,5),(bitN aq,26,1),(bitN rl,25,1)]=0+fd (a) 0 5 15+fd (bitN aq) 0 1 26+fd (bitN rl) 0 1 25:=by
   unfold x15
   rw [P0.1,P1.1,P2.1]
   exact List.foldl_nil
  rw [L,P,Sub.sum hT P2.2 (by decide)]
  rw [z,fd_0]
  try omega
 ·have L:regP 10 rd a 0++immP op 10 v aq rl=[(a,15,5),(rd,7,5),(bitN aq,26,1),(bitN rl,25,1)]:=by
   unfold regP immP
   rw [show fA 10=true by decide,show fB 10=false by decide,if_neg z]
   simp
  have P0:=x0o (w:=0) (v:=a) (a:=15) (n:=5) (r:=[(rd,7,5),(bitN aq,26,1),(bitN rl,25,1)]) (m:=0) (mm:=1015808) (k2:=1015808) (Sub.zero 0) (by decide) (by decide) (by decide)
  have P1:=x0o (w:=0+fd (a) 0 5 15) (v:=rd) (a:=7) (n:=5) (r:=[(bitN aq,26,1),(bitN rl,25,1)]) (m:=1015808) (mm:=3968) (k2:=1019776) P0.2 (by decide) (by decide) (by decide)
  have P2:=x0o (w:=0+fd (a) 0 5 15+fd (rd) 0 5 7) (v:=bitN aq) (a:=26) (n:=1) (r:=[(bitN rl,25,1)]) (m:=1019776) (mm:=67108864) (k2:=68128640) P1.2 (by decide) (by decide) (by decide)
  have P3:=x0o (w:=0+fd (a) 0 5 15+fd (rd) 0 5 7+fd (bitN aq) 0 1 26) (v:=bitN rl) (a:=25) (n:=1) (r:=[]) (m:=68128640) (mm:=33554432) (k2:=101683072) P2.2 (by decide) (by decide) (by decide)
  have P:x15 [(a,15,5),(rd,7,5),(bitN aq,26,1),(bitN rl,25,1)]=0+fd (a) 0 5 15+fd (rd) 0 5 7+fd (bitN aq) 0 1 26+fd (bitN rl) 0 1 25:=by
   unfold x15
   rw [P0.1,P1.1,P2.1,P3.1]
   exact List.foldl_nil
  rw [L,P,Sub.sum hT P3.2 (by decide)]
  try omega
theorem xgd (w op:Nat) (h1:1≤op) (h2:op<88) (hf:x0a op=10):encR 10 (encT op (uN (prd w 10)) (uN (pA w 10)) (uN (pB w 10))) (uN (immW w 10)) (pAq w 10) (pRl w 10)=x0k op+(fd w 7 5 7+fd w 15 5 15+fd w 26 1 26+fd w 25 1 25)∧encP op (prd w 10).toNat (pA w 10).toNat (pB w 10).toNat (uN (immW w 10)%4294967296) (pAq w 10) (pRl w 10)=x0k op+(fd w 7 5 7+fd w 15 5 15+fd w 26 1 26+fd w 25 1 25):=by
 have hm:=x4t op h2 h1
 have hb:=x4J op h2 h1
 have ho:=x8o op h2 h1 (by rw [hf];decide)
 rw [hf] at hm hb
 rw [if_neg ho] at hb
 rw [show x7Z 10=4160778367 by decide] at hm
 have e1:prd w 10=((F w 7 5:Nat):Int):=by unfold prd;rw [if_pos (show fRd 10=true by decide)]
 have e2:pA w 10=((F w 15 5:Nat):Int):=by unfold pA;rw [if_pos (show fA 10=true by decide)]
 have e3:pB w 10=0:=by unfold pB;rw [if_neg (show ¬ fB 10=true by decide)]
 generalize uN (immW w 10)%4294967296=v
 generalize uN (immW w 10)=m
 have q1:bitN (pAq w 10)=F w 26 1:=by
  have:=F_lt w 26 1
  unfold pAq
  rw [show fO 10=true by decide,Bool.true_and]
  unfold bitN
  rcases (by omega:F w 26 1=0∨F w 26 1=1) with q | q<;>rw [q]<;>decide
 have q2:bitN (pRl w 10)=F w 25 1:=by
  have:=F_lt w 25 1
  unfold pRl
  rw [show fO 10=true by decide,Bool.true_and]
  unfold bitN
  rcases (by omega:F w 25 1=0∨F w 25 1=1) with q | q<;>rw [q]<;>decide
 have b1:fd (bitN (pAq w 10)) 0 1 26=fd w 26 1 26:=by rw [q1,fd_F]
 have b2:fd (bitN (pRl w 10)) 0 1 25=fd w 25 1 25:=by rw [q2,fd_F]
 clear q1 q2
 revert b1 b2
 generalize pAq w 10=aq
 generalize pRl w 10=rl
 intro b1 b2
 rw [e1,e2,e3,x4l]
 rw [uN_F w 7 5 (by decide)]
 rw [uN_F w 15 5 (by decide)]
 rw [x57]
 constructor
 ·have R4:∀ t:Nat,encR 10 t m aq rl=t ||| fd (bitN aq) 0 1 26 ||| fd (bitN rl) 0 1 25:=by
   intro t
   unfold encR
   rw [xks]
   cases aq<;>cases rl<;>simp [bitN,x3m,F]
  rw [R4,xlg (x0k op) (F w 7 5) (F w 15 5) 0 m _ _ hm]
  simp only [fd_F,b1,b2]
 ·unfold encP
  rw [hf,hb]
  simp only [Int.toNat_natCast,Int.toNat_zero]
  rw [xli (x0k op) op (F w 7 5) (F w 15 5) 0 v _ _ hm ho]
  simp only [fd_F,b1,b2]
theorem xlf (T rd a b m aq rl:Nat) (hT:Sub T 4160778367):(T ||| fd rd 0 5 7 ||| fd a 0 5 15 ||| fd b 0 5 20) ||| fd aq 0 1 26 ||| fd rl 0 1 25=T+(fd rd 0 5 7+fd a 0 5 15+fd b 0 5 20+fd aq 0 1 26+fd rl 0 1 25):=by
 have O0:=x0N (w:=T) (x:=fd rd 0 5 7) (m:=4160778367) (mm:=3968) (k2:=4160782335) hT (x1C rd 0 5 7 3968 (by decide)) (by decide) (by decide)
 have O1:=x0N (w:=T+fd rd 0 5 7) (x:=fd a 0 5 15) (m:=4160782335) (mm:=1015808) (k2:=4161798143) O0.2 (x1C a 0 5 15 1015808 (by decide)) (by decide) (by decide)
 have O2:=x0N (w:=T+fd rd 0 5 7+fd a 0 5 15) (x:=fd b 0 5 20) (m:=4161798143) (mm:=32505856) (k2:=4194303999) O1.2 (x1C b 0 5 20 32505856 (by decide)) (by decide) (by decide)
 have O3:=x0N (w:=T+fd rd 0 5 7+fd a 0 5 15+fd b 0 5 20) (x:=fd aq 0 1 26) (m:=4194303999) (mm:=67108864) (k2:=4261412863) O2.2 (x1C aq 0 1 26 67108864 (by decide)) (by decide) (by decide)
 have O4:=x0N (w:=T+fd rd 0 5 7+fd a 0 5 15+fd b 0 5 20+fd aq 0 1 26) (x:=fd rl 0 1 25) (m:=4261412863) (mm:=33554432) (k2:=4294967295) O3.2 (x1C rl 0 1 25 33554432 (by decide)) (by decide) (by decide)
 rw [O0.1,O1.1,O2.1,O3.1,O4.1]
 try omega
theorem xlh (T op rd a b v:Nat) (aq rl:Bool) (hT:Sub T 4160778367) (ho:op≠65):T ||| x15 (regP 11 rd a b++immP op 11 v aq rl)=T+(fd rd 0 5 7+fd a 0 5 15+fd b 0 5 20+fd (bitN aq) 0 1 26+fd (bitN rl) 0 1 25):=by
 by_cases z:rd=0
 ·have L:regP 11 rd a b++immP op 11 v aq rl=[(a,15,5),(b,20,5),(bitN aq,26,1),(bitN rl,25,1)]:=by
   unfold regP immP
   rw [show fA 11=true by decide,show fB 11=true by decide,if_pos z]
   simp
  have P0:=x0o (w:=0) (v:=a) (a:=15) (n:=5) (r:=[(b,20,5),(bitN aq,26,1),(bitN rl,25,1)]) (m:=0) (mm:=1015808) (k2:=1015808) (Sub.zero 0) (by decide) (by decide) (by decide)
  have P1:=x0o (w:=0+fd (a) 0 5 15) (v:=b) (a:=20) (n:=5) (r:=[(bitN aq,26,1),(bitN rl,25,1)]) (m:=1015808) (mm:=32505856) (k2:=33521664) P0.2 (by decide) (by decide) (by decide)
  have P2:=x0o (w:=0+fd (a) 0 5 15+fd (b) 0 5 20) (v:=bitN aq) (a:=26) (n:=1) (r:=[(bitN rl,25,1)]) (m:=33521664) (mm:=67108864) (k2:=100630528) P1.2 (by decide) (by decide) (by decide)
  have P3:=x0o (w:=0+fd (a) 0 5 15+fd (b) 0 5 20+fd (bitN aq) 0 1 26) (v:=bitN rl) (a:=25) (n:=1) (r:=[]) (m:=100630528) (mm:=33554432) (k2:=134184960) P2.2 (by decide) (by decide) (by decide)
  have P:x15 [(a,15,5),(b,20,5),(bitN aq,26,1),(bitN rl,25,1)]=0+fd (a) 0 5 15+fd (b) 0 5 20+fd (bitN aq) 0 1 26+fd (bitN rl) 0 1 25:=by
   unfold x15
   rw [P0.1,P1.1,P2.1,P3.1]
   exact List.foldl_nil
  rw [L,P,Sub.sum hT P3.2 (by decide)]
  rw [z,fd_0]
  try omega
 ·have L:regP 11 rd a b++immP op 11 v aq rl=[(a,15,5),(b,20,5),(rd,7,5),(bitN aq,26,1),(bitN rl,25,1)]:=by
   unfold regP immP
   rw [show fA 11=true by decide,show fB 11=true by decide,if_neg z]
   simp
  have P0:=x0o (w:=0) (v:=a) (a:=15) (n:=5) (r:=[(b,20,5),(rd,7,5),(bitN aq,26,1),(bitN rl,25,1)]) (m:=0) (mm:=1015808) (k2:=1015808) (Sub.zero 0) (by decide) (by decide) (by decide)
  have P1:=x0o (w:=0+fd (a) 0 5 15) (v:=b) (a:=20) (n:=5) (r:=[(rd,7,5),(bitN aq,26,1),(bitN rl,25,1)]) (m:=1015808) (mm:=32505856) (k2:=33521664) P0.2 (by decide) (by decide) (by decide)
  have P2:=x0o (w:=0+fd (a) 0 5 15+fd (b) 0 5 20) (v:=rd) (a:=7) (n:=5) (r:=[(bitN aq,26,1),(bitN rl,25,1)]) (m:=33521664) (mm:=3968) (k2:=33525632) P1.2 (by decide) (by decide) (by decide)
  have P3:=x0o (w:=0+fd (a) 0 5 15+fd (b) 0 5 20+fd (rd) 0 5 7) (v:=bitN aq) (a:=26) (n:=1) (r:=[(bitN rl,25,1)]) (m:=33525632) (mm:=67108864) (k2:=100634496) P2.2 (by decide) (by decide) (by decide)
  have P4:=x0o (w:=0+fd (a) 0 5 15+fd (b) 0 5 20+fd (rd) 0 5 7+fd (bitN aq) 0 1 26) (v:=bitN rl) (a:=25) (n:=1) (r:=[]) (m:=100634496) (mm:=33554432) (k2:=134188928) P3.2 (by decide) (by decide) (by decide)
  have P:x15 [(a,15,5),(b,20,5),(rd,7,5),(bitN aq,26,1),(bitN rl,25,1)]=0+fd (a) 0 5 15+fd (b) 0 5 20+fd (rd) 0 5 7+fd (bitN aq) 0 1 26+fd (bitN rl) 0 1 25:=by
   unfold x15
   rw [P0.1,P1.1,P2.1,P3.1,P4.1]
   exact List.foldl_nil
  rw [L,P,Sub.sum hT P4.2 (by decide)]
  try omega
theorem xgc (w op:Nat) (h1:1≤op) (h2:op<88) (hf:x0a op=11):encR 11 (encT op (uN (prd w 11)) (uN (pA w 11)) (uN (pB w 11))) (uN (immW w 11)) (pAq w 11) (pRl w 11)=x0k op+(fd w 7 5 7+fd w 15 5 15+fd w 20 5 20+fd w 26 1 26+fd w 25 1 25)∧encP op (prd w 11).toNat (pA w 11).toNat (pB w 11).toNat (uN (immW w 11)%4294967296) (pAq w 11) (pRl w 11)=x0k op+(fd w 7 5 7+fd w 15 5 15+fd w 20 5 20+fd w 26 1 26+fd w 25 1 25):=by
 have hm:=x4t op h2 h1
 have hb:=x4J op h2 h1
 have ho:=x8o op h2 h1 (by rw [hf];decide)
 rw [hf] at hm hb
 rw [if_neg ho] at hb
 rw [show x7Z 11=4160778367 by decide] at hm
 have e1:prd w 11=((F w 7 5:Nat):Int):=by unfold prd;rw [if_pos (show fRd 11=true by decide)]
 have e2:pA w 11=((F w 15 5:Nat):Int):=by unfold pA;rw [if_pos (show fA 11=true by decide)]
 have e3:pB w 11=((F w 20 5:Nat):Int):=by unfold pB;rw [if_pos (show fB 11=true by decide)]
 generalize uN (immW w 11)%4294967296=v
 generalize uN (immW w 11)=m
 have q1:bitN (pAq w 11)=F w 26 1:=by
  have:=F_lt w 26 1
  unfold pAq
  rw [show fO 11=true by decide,Bool.true_and]
  unfold bitN
  rcases (by omega:F w 26 1=0∨F w 26 1=1) with q | q<;>rw [q]<;>decide
 have q2:bitN (pRl w 11)=F w 25 1:=by
  have:=F_lt w 25 1
  unfold pRl
  rw [show fO 11=true by decide,Bool.true_and]
  unfold bitN
  rcases (by omega:F w 25 1=0∨F w 25 1=1) with q | q<;>rw [q]<;>decide
 have b1:fd (bitN (pAq w 11)) 0 1 26=fd w 26 1 26:=by rw [q1,fd_F]
 have b2:fd (bitN (pRl w 11)) 0 1 25=fd w 25 1 25:=by rw [q2,fd_F]
 clear q1 q2
 revert b1 b2
 generalize pAq w 11=aq
 generalize pRl w 11=rl
 intro b1 b2
 rw [e1,e2,e3,x4l]
 rw [uN_F w 7 5 (by decide)]
 rw [uN_F w 15 5 (by decide)]
 rw [uN_F w 20 5 (by decide)]
 constructor
 ·have R4:∀ t:Nat,encR 11 t m aq rl=t ||| fd (bitN aq) 0 1 26 ||| fd (bitN rl) 0 1 25:=by
   intro t
   unfold encR
   rw [xkr]
   cases aq<;>cases rl<;>simp [bitN,x3m,F]
  rw [R4,xlf (x0k op) (F w 7 5) (F w 15 5) (F w 20 5) m _ _ hm]
  simp only [fd_F,b1,b2]
 ·unfold encP
  rw [hf,hb]
  simp only [Int.toNat_natCast,Int.toNat_zero]
  rw [xlh (x0k op) op (F w 7 5) (F w 15 5) (F w 20 5) v _ _ hm ho]
  simp only [fd_F,b1,b2]
end
section
def okR (w op:Nat):Prop:=x0k op%128=w%128∧mayI op (prd w (x0a op)) (pA w (x0a op)) (pB w (x0a op)) (immW w (x0a op)) (pAq w (x0a op)) (pRl w (x0a op))=true∧encR (x0a op) (encT op (uN (prd w (x0a op))) (uN (pA w (x0a op))) (uN (pB w (x0a op)))) (uN (immW w (x0a op))) (pAq w (x0a op)) (pRl w (x0a op))=w
end
section
set_option linter.unusedVariables false
theorem xeZ:∀ op:Nat,op<88→1≤op→x0a op=0∨x0a op=1∨x0a op=2∨x0a op=3∨x0a op=4∨x0a op=5∨x0a op=6∨x0a op=7∨x0a op=8∨x0a op=9∨x0a op=10∨x0a op=11:=by decide +kernel
theorem xku:encP 64 0 0 0 0 false false=115:=by decide +kernel
theorem xkt:encP 65 0 0 0 0 false false=1048691:=by decide +kernel
theorem xcr:x0k 64=115:=by decide +kernel
theorem xcq:x0k 65=1048691:=by decide +kernel
theorem xkd (w op:Nat) (h1:1≤op) (h2:op<88) (hf:x0a op=0):encR 0 (encT op (uN (prd w 0)) (uN (pA w 0)) (uN (pB w 0))) (uN (immW w 0)) (pAq w 0) (pRl w 0)=x0k op∧encP op (prd w 0).toNat (pA w 0).toNat (pB w 0).toNat (uN (immW w 0)%4294967296) (pAq w 0) (pRl w 0)=x0k op:=by
 have e1:prd w 0=0:=by unfold prd;rw [if_neg (show ¬ fRd 0=true by decide)]
 have e2:pA w 0=0:=by unfold pA;rw [if_neg (show ¬ fA 0=true by decide)]
 have e3:pB w 0=0:=by unfold pB;rw [if_neg (show ¬ fB 0=true by decide)]
 have e4:immW w 0=0:=by unfold immW;simp only [Int.reduceEq,if_true,if_false]
 have a0:pAq w 0=false:=by unfold pAq;rw [show fO 0=false by decide,Bool.false_and]
 have r0:pRl w 0=false:=by unfold pRl;rw [show fO 0=false by decide,Bool.false_and]
 rw [e1,e2,e3,e4,a0,r0,x57,x40,xmG,x4l]
 simp only [fd_0,Nat.or_zero,Int.toNat_zero,Nat.zero_mod,true_and]
 rcases tabZ op h2 h1 hf with rfl | rfl
 ·rw [xku,xcr]
 ·rw [xkt,xcq]
theorem xnI (w o g s:Nat) (lo:o<2 ^ 7) (lg:g<2 ^ 3) (ls:s<2 ^ 7) (hg:g=0) (hs:s=0) (h:o+g*4096+s*33554432+(fd w 7 5 7+fd w 12 20 12)=w) (hw:w<2 ^ 32):F w 0 7=o:=by
 simp only [x3m,F,Nat.reducePow,Nat.pow_zero,Nat.div_one] at *
 omega
theorem xnH (w o g s:Nat) (lo:o<2 ^ 7) (lg:g<2 ^ 3) (ls:s<2 ^ 7) (hg:g=0) (hs:s=0) (h:o+g*4096+s*33554432+(fd w 7 5 7+fd w 31 1 31+fd w 21 10 21+fd w 20 1 20+fd w 12 8 12)=w) (hw:w<2 ^ 32):F w 0 7=o:=by
 simp only [x3m,F,Nat.reducePow,Nat.pow_zero,Nat.div_one] at *
 omega
theorem xnG (w o g s:Nat) (lo:o<2 ^ 7) (lg:g<2 ^ 3) (ls:s<2 ^ 7) (hs:s=0) (h:o+g*4096+s*33554432+(fd w 7 5 7+fd w 15 5 15+fd w 20 12 20)=w) (hw:w<2 ^ 32):F w 0 7=o∧F w 12 3=g:=by
 simp only [x3m,F,Nat.reducePow,Nat.pow_zero,Nat.div_one] at *
 omega
theorem xnF (w o g s:Nat) (lo:o<2 ^ 7) (lg:g<2 ^ 3) (ls:s<2 ^ 7) (hs:s=0) (h:o+g*4096+s*33554432+(fd w 15 5 15+fd w 20 5 20+fd w 31 1 31+fd w 25 6 25+fd w 8 4 8+fd w 7 1 7)=w) (hw:w<2 ^ 32):F w 0 7=o∧F w 12 3=g:=by
 simp only [x3m,F,Nat.reducePow,Nat.pow_zero,Nat.div_one] at *
 omega
theorem xnE (w o g s:Nat) (lo:o<2 ^ 7) (lg:g<2 ^ 3) (ls:s<2 ^ 7) (hs:s=0) (h:o+g*4096+s*33554432+(fd w 15 5 15+fd w 20 5 20+fd w 25 7 25+fd w 7 5 7)=w) (hw:w<2 ^ 32):F w 0 7=o∧F w 12 3=g:=by
 simp only [x3m,F,Nat.reducePow,Nat.pow_zero,Nat.div_one] at *
 omega
theorem xnD (w o g s:Nat) (lo:o<2 ^ 7) (lg:g<2 ^ 3) (ls:s<2 ^ 7)  (h:o+g*4096+s*33554432+(fd w 7 5 7+fd w 15 5 15+fd w 20 5 20)=w) (hw:w<2 ^ 32):F w 0 7=o∧F w 12 3=g∧F w 25 7=s:=by
 simp only [x3m,F,Nat.reducePow,Nat.pow_zero,Nat.div_one] at *
 omega
theorem xnC (w o g s:Nat) (lo:o<2 ^ 7) (lg:g<2 ^ 3) (ls:s<2 ^ 7) (hs:s%2=0) (h:o+g*4096+s*33554432+(fd w 7 5 7+fd w 15 5 15+fd w 20 6 20)=w) (hw:w<2 ^ 32):F w 0 7=o∧F w 12 3=g∧s≤F w 25 7∧F w 25 7<s+2:=by
 simp only [x3m,F,Nat.reducePow,Nat.pow_zero,Nat.div_one] at *
 omega
theorem xnB (w o g s:Nat) (lo:o<2 ^ 7) (lg:g<2 ^ 3) (ls:s<2 ^ 7)  (h:o+g*4096+s*33554432+(fd w 7 5 7+fd w 15 5 15+fd w 20 5 20)=w) (hw:w<2 ^ 32):F w 0 7=o∧F w 12 3=g∧F w 25 7=s:=by
 simp only [x3m,F,Nat.reducePow,Nat.pow_zero,Nat.div_one] at *
 omega
theorem xnA (w o g s:Nat) (lo:o<2 ^ 7) (lg:g<2 ^ 3) (ls:s<2 ^ 7) (hs:s=0) (h:o+g*4096+s*33554432+(fd w 20 8 20)=w) (hw:w<2 ^ 32):F w 0 7=o∧F w 12 3=g:=by
 simp only [x3m,F,Nat.reducePow,Nat.pow_zero,Nat.div_one] at *
 omega
theorem xlq (w o g s:Nat) (lo:o<2 ^ 7) (lg:g<2 ^ 3) (ls:s<2 ^ 7) (hs:s%4=0) (h:o+g*4096+s*33554432+(fd w 7 5 7+fd w 15 5 15+fd w 26 1 26+fd w 25 1 25)=w) (hw:w<2 ^ 32):F w 0 7=o∧F w 12 3=g∧s≤F w 25 7∧F w 25 7<s+4:=by
 simp only [x3m,F,Nat.reducePow,Nat.pow_zero,Nat.div_one] at *
 omega
theorem xlp (w o g s:Nat) (lo:o<2 ^ 7) (lg:g<2 ^ 3) (ls:s<2 ^ 7) (hs:s%4=0) (h:o+g*4096+s*33554432+(fd w 7 5 7+fd w 15 5 15+fd w 20 5 20+fd w 26 1 26+fd w 25 1 25)=w) (hw:w<2 ^ 32):F w 0 7=o∧F w 12 3=g∧s≤F w 25 7∧F w 25 7<s+4:=by
 simp only [x3m,F,Nat.reducePow,Nat.pow_zero,Nat.div_one] at *
 omega
theorem xkX (w op:Nat) (hw:w<2 ^ 32) (h1:1≤op) (h2:op<88) (h:encR (x0a op) (encT op (uN (prd w (x0a op))) (uN (pA w (x0a op))) (uN (pB w (x0a op)))) (uN (immW w (x0a op))) (pAq w (x0a op)) (pRl w (x0a op))=w):opN w=op:=by
 have l0:=F_lt (x0k op) 0 7
 have l1:=F_lt (x0k op) 12 3
 have l2:=F_lt (x0k op) 25 7
 rcases xeZ op h2 h1 with hf | hf | hf | hf | hf | hf | hf | hf | hf | hf | hf | hf<;>rw [hf] at h
 ·rw [(xkd w op h1 h2 hf).1] at h
  subst h
  rcases tabZ op h2 h1 hf with rfl | rfl
  ·rw [xcr];decide +kernel
  ·rw [xcq];decide +kernel
 ·rw [(xkc w op h1 h2 hf).1,x5P op h2 h1 (by rw [hf];decide)] at h
  have z:=xnI w _ _ _ l0 l1 l2 (tabG op h2 h1 (Or.inl hf)).1 (tabG op h2 h1 (Or.inl hf)).2 h hw
  unfold opN
  rw [z,x8x _ _ _ _ (tabN op h2 h1 (by rw [hf];decide))]
  exact opU op h2 h1 (Or.inl hf) _ (F_lt w 12 3) _ (F_lt w 25 7)
 ·rw [(xkb w op h1 h2 hf).1,x5P op h2 h1 (by rw [hf];decide)] at h
  have z:=xnH w _ _ _ l0 l1 l2 (tabG op h2 h1 (Or.inr hf)).1 (tabG op h2 h1 (Or.inr hf)).2 h hw
  unfold opN
  rw [z,x8x _ _ _ _ (tabN op h2 h1 (by rw [hf];decide))]
  exact opU op h2 h1 (Or.inr hf) _ (F_lt w 12 3) _ (F_lt w 25 7)
 ·rw [(xka w op h1 h2 hf).1,x5P op h2 h1 (by rw [hf];decide)] at h
  have z:=xnG w _ _ _ l0 l1 l2 (tabS op h2 h1 (Or.inl hf)) h hw
  unfold opN
  rw [z.1,z.2,x8x _ _ _ _ (tabN op h2 h1 (by rw [hf];decide))]
  exact opI op h2 h1 (Or.inl hf) _ (F_lt w 25 7)
 ·rw [(xk9 w op h1 h2 hf).1,x5P op h2 h1 (by rw [hf];decide)] at h
  have z:=xnF w _ _ _ l0 l1 l2 (tabS op h2 h1 (Or.inr (Or.inl hf))) h hw
  unfold opN
  rw [z.1,z.2,x8x _ _ _ _ (tabN op h2 h1 (by rw [hf];decide))]
  exact opI op h2 h1 (Or.inr (Or.inl hf)) _ (F_lt w 25 7)
 ·rw [(xk8 w op h1 h2 hf).1,x5P op h2 h1 (by rw [hf];decide)] at h
  have z:=xnE w _ _ _ l0 l1 l2 (tabS op h2 h1 (Or.inr (Or.inr (Or.inl hf)))) h hw
  unfold opN
  rw [z.1,z.2,x8x _ _ _ _ (tabN op h2 h1 (by rw [hf];decide))]
  exact opI op h2 h1 (Or.inr (Or.inr (Or.inl hf))) _ (F_lt w 25 7)
 ·rw [(xk7 w op h1 h2 hf).1,x5P op h2 h1 (by rw [hf];decide)] at h
  have z:=xnD w _ _ _ l0 l1 l2 h hw
  unfold opN
  rw [z.1,z.2.1,z.2.2,x8x _ _ _ _ (tabN op h2 h1 (by rw [hf];decide))]
  exact opR op h2 h1 (Or.inl hf)
 ·rw [(xk6 w op h1 h2 hf).1,x5P op h2 h1 (by rw [hf];decide)] at h
  have z:=xnC w _ _ _ l0 l1 l2 (tab2 op h2 h1 hf) h hw
  unfold opN
  obtain ⟨x,hx⟩:∃ x,F w 25 7=F (x0k op) 25 7+x:=⟨F w 25 7-F (x0k op) 25 7,by omega⟩
  rw [z.1,z.2.1,hx,x8x _ _ _ _ (tabN op h2 h1 (by rw [hf];decide))]
  exact opH op h2 h1 hf x (by omega)
 ·rw [(xk5 w op h1 h2 hf).1,x5P op h2 h1 (by rw [hf];decide)] at h
  have z:=xnB w _ _ _ l0 l1 l2 h hw
  unfold opN
  rw [z.1,z.2.1,z.2.2,x8x _ _ _ _ (tabN op h2 h1 (by rw [hf];decide))]
  exact opR op h2 h1 (Or.inr hf)
 ·rw [(xk4 w op h1 h2 hf).1,x5P op h2 h1 (by rw [hf];decide)] at h
  have z:=xnA w _ _ _ l0 l1 l2 (tabS op h2 h1 (Or.inr (Or.inr (Or.inr hf)))) h hw
  unfold opN
  rw [z.1,z.2,x8x _ _ _ _ (tabN op h2 h1 (by rw [hf];decide))]
  exact opI op h2 h1 (Or.inr (Or.inr (Or.inr hf))) _ (F_lt w 25 7)
 ·rw [(xgd w op h1 h2 hf).1,x5P op h2 h1 (by rw [hf];decide)] at h
  have z:=xlq w _ _ _ l0 l1 l2 (tab4 op h2 h1 (Or.inl hf)) h hw
  unfold opN
  obtain ⟨x,hx⟩:∃ x,F w 25 7=F (x0k op) 25 7+x:=⟨F w 25 7-F (x0k op) 25 7,by omega⟩
  rw [z.1,z.2.1,hx,x8x _ _ _ _ (tabN op h2 h1 (by rw [hf];decide))]
  exact opA op h2 h1 (Or.inl hf) x (by omega)
 ·rw [(xgc w op h1 h2 hf).1,x5P op h2 h1 (by rw [hf];decide)] at h
  have z:=xlp w _ _ _ l0 l1 l2 (tab4 op h2 h1 (Or.inr hf)) h hw
  unfold opN
  obtain ⟨x,hx⟩:∃ x,F w 25 7=F (x0k op) 25 7+x:=⟨F w 25 7-F (x0k op) 25 7,by omega⟩
  rw [z.1,z.2.1,hx,x8x _ _ _ _ (tabN op h2 h1 (by rw [hf];decide))]
  exact opA op h2 h1 (Or.inr hf) x (by omega)
theorem xi8 (w op:Nat) (h1:1≤op) (h2:op<88):encP op (prd w (x0a op)).toNat (pA w (x0a op)).toNat (pB w (x0a op)).toNat (uN (immW w (x0a op))%4294967296) (pAq w (x0a op)) (pRl w (x0a op))=encR (x0a op) (encT op (uN (prd w (x0a op))) (uN (pA w (x0a op))) (uN (pB w (x0a op)))) (uN (immW w (x0a op))) (pAq w (x0a op)) (pRl w (x0a op)):=by
 rcases xeZ op h2 h1 with hf | hf | hf | hf | hf | hf | hf | hf | hf | hf | hf | hf<;>rw [hf]
 ·rw [(xkd w op h1 h2 hf).1,(xkd w op h1 h2 hf).2]
 ·rw [(xkc w op h1 h2 hf).1,(xkc w op h1 h2 hf).2]
 ·rw [(xkb w op h1 h2 hf).1,(xkb w op h1 h2 hf).2]
 ·rw [(xka w op h1 h2 hf).1,(xka w op h1 h2 hf).2]
 ·rw [(xk9 w op h1 h2 hf).1,(xk9 w op h1 h2 hf).2]
 ·rw [(xk8 w op h1 h2 hf).1,(xk8 w op h1 h2 hf).2]
 ·rw [(xk7 w op h1 h2 hf).1,(xk7 w op h1 h2 hf).2]
 ·rw [(xk6 w op h1 h2 hf).1,(xk6 w op h1 h2 hf).2]
 ·rw [(xk5 w op h1 h2 hf).1,(xk5 w op h1 h2 hf).2]
 ·rw [(xk4 w op h1 h2 hf).1,(xk4 w op h1 h2 hf).2]
 ·rw [(xgd w op h1 h2 hf).1,(xgd w op h1 h2 hf).2]
 ·rw [(xgc w op h1 h2 hf).1,(xgc w op h1 h2 hf).2]
theorem xid (w:Nat) (hw:w<2 ^ 32) (op:Nat) (h1:1≤op) (h2:op<88) (h:okR w op):decP w=x9l w op:=by
 obtain ⟨_,hm,he⟩:=h
 have hs:=xkX w op hw h1 h2 he
 unfold decP
 rw [hs,Int.toNat_natCast]
 refine if_pos ⟨hm,?_⟩
 rw [xi8 w op h1 h2,he]
end
section
theorem xoA (op:Int):x0a op=5↔(18≤op∧op≤21):=by
 rw [← x8k];unfold xc9 x9m;(repeat' split)<;>omega
theorem xiT (op:Int):x0a op=10↔(op=66∨op=77):=by
 rw [← x8k];unfold xc9 x9m;(repeat' split)<;>omega
theorem xiS (op:Int):x0a op=11↔((67≤op∧op≤76)∨(78≤op∧op≤87)):=by
 rw [← x8k];unfold xc9 x9m;(repeat' split)<;>omega
theorem xot (op:Int):letB op=83↔(18≤op∧op≤21):=by
 rw [← xoA];unfold x0a x7i;(repeat' split)<;>omega
theorem xou (op:Int):letB op=76↔(op=66∨op=77):=by
 rw [← xiT];unfold x0a x7i;(repeat' split)<;>omega
theorem xly (op:Int):letB op=65↔((67≤op∧op≤76)∨(78≤op∧op≤87)):=by
 rw [← xiS];unfold x0a x7i;(repeat' split)<;>omega
def rdI (op:Int):Bool:=decide (11≤op∧op≤17∨op=66∨op=77∨(68≤op∧op≤76)∨(79≤op∧op≤87))
def wrI (op:Int):Bool:=decide ((18≤op∧op≤21)∨(67≤op∧op≤76)∨(78≤op∧op≤87))
def accI (op:Int):Bool:=decide ((11≤op∧op≤21)∨(66≤op∧op≤87))
def xbv (op:Int):Bool:=decide (op=14∨op=21∨(77≤op∧op≤87))
theorem xjh (op:Int):(rdI op||wrI op)=accI op:=by
 rw [Bool.eq_iff_iff,Bool.or_eq_true];unfold rdI wrI accI;simp only [decide_eq_true_eq];omega
theorem xc4 {base:Nat} (op:Int) (h:Heap):WpF S0 base xaX [.sc (.int .i64 op)] h fun v h'=>v=.tup [.bool (rdI op),.bool (wrI op)]∧h'=h:=by
 have hN:=fun base h=>xb3 (base:=base) op h
 have hi:=fun base a b h=>x7B (base:=base) op a b h
 have hF:=fun base h=>x4R (base:=base) op h
 have hn:=xab op
 have f10:=xiT op
 have f11:=xiS op
 first | refine zu (A:=x39) rfl rfl rfl rfl ?_ | refine zB (A:=x39) rfl rfl rfl rfl ?_
 simp only [x39,oD,cD,τ,φ,ι]
 (simp only [SQ,zm,AOp.opds,step,Opd.get,zk,bin,zzc,IntKind.signed,zi,zj,zl,zb,unary,ze,zd,za,zo,zr,zh,zf,zg,zp,Cp.isFull,isNil,zq,simprocAttr,SQX,V.cells,zn (hN _ _),zn (hi _ _ _ _),zn (hF _ _),zE,hn];repeat' ((first | refine x0G ?_ ?_ | refine x0u ?_ ?_ | refine x0v ?_ ?_)<;>(intro hb;simp only [SQ,zm,AOp.opds,step,Opd.get,zk,bin,zzc,IntKind.signed,zi,zj,zl,zb,unary,ze,zd,za,zo,zr,zh,zf,zg,zp,Cp.isFull,isNil,zq,simprocAttr,SQX,V.cells,hb,zn (hN _ _),zn (hi _ _ _ _),zn (hF _ _),zE,hn])))
 all_goals clear hN hi hF hn
 all_goals simp only [V.sc.injEq,V.tup.injEq,List.cons.injEq,Value.bool.injEq,and_true]
 all_goals simp only [decide_eq_true_eq,decide_eq_false_iff_not,x4S,f10,f11] at *
 all_goals (try refine ⟨?_,?_⟩)
 all_goals (rw [Bool.eq_iff_iff];simp only [rdI,wrI,accI,xbv,x4S,decide_eq_true_eq,Bool.false_eq_true,true_iff,false_iff,iff_true,iff_false,bne_iff_ne,ne_eq,Bool.not_eq_true',decide_eq_false_iff_not,Bool.and_eq_true];omega)
theorem xfQ {base:Nat} (op:Int) (h:Heap):WpF S0 base xe1 [.sc (.int .i64 op)] h fun v h'=>v=.bool (xbv op)∧h'=h:=by
 have hi:=fun base a b h=>x7B (base:=base) op a b h
 first | refine zu (A:=x4a) rfl rfl rfl rfl ?_ | refine zB (A:=x4a) rfl rfl rfl rfl ?_
 simp only [x4a,oD,cD,τ,φ,ι]
 (simp only [SQ,zm,AOp.opds,step,Opd.get,zk,bin,zzc,IntKind.signed,zi,zj,zl,zb,unary,ze,zd,za,zo,zr,zh,zf,zg,zp,Cp.isFull,isNil,zq,simprocAttr,SQX,V.cells,zn (hi _ _ _ _)];repeat' ((first | refine x0G ?_ ?_ | refine x0u ?_ ?_ | refine x0v ?_ ?_)<;>(intro hb;simp only [SQ,zm,AOp.opds,step,Opd.get,zk,bin,zzc,IntKind.signed,zi,zj,zl,zb,unary,ze,zd,za,zo,zr,zh,zf,zg,zp,Cp.isFull,isNil,zq,simprocAttr,SQX,V.cells,hb,zn (hi _ _ _ _)])))
 all_goals clear hi
 all_goals simp only [V.sc.injEq,V.tup.injEq,List.cons.injEq,Value.bool.injEq,and_true]
 all_goals simp only [decide_eq_true_eq,decide_eq_false_iff_not,x4S] at *
 all_goals (try refine ⟨?_,?_⟩)
 all_goals (rw [Bool.eq_iff_iff];simp only [rdI,wrI,accI,xbv,x4S,decide_eq_true_eq,Bool.false_eq_true,true_iff,false_iff,iff_true,iff_false,bne_iff_ne,ne_eq,Bool.not_eq_true',decide_eq_false_iff_not,Bool.and_eq_true];omega)
theorem xdm {base:Nat} (op:Int) (h:Heap):WpF S0 base x8E [.sc (.int .i64 op)] h fun v h'=>v=.bool (accI op)∧h'=h:=by
 have hA:=fun base h=>xc4 (base:=base) op h
 have ha:=xjh op
 first | refine zu (A:=x23) rfl rfl rfl rfl ?_ | refine zB (A:=x23) rfl rfl rfl rfl ?_
 simp only [x23,oD,cD,τ,φ,ι]
 (simp only [SQ,zm,AOp.opds,step,Opd.get,zk,bin,zzc,IntKind.signed,zi,zj,zl,zb,unary,ze,zd,za,zo,zr,zh,zf,zg,zp,Cp.isFull,isNil,zq,simprocAttr,SQX,V.cells,zn (hA _ _),List.getElem?_cons_zero,List.getElem?_cons_succ];repeat' ((first | refine x0G ?_ ?_ | refine x0u ?_ ?_ | refine x0v ?_ ?_)<;>(intro hb;simp only [SQ,zm,AOp.opds,step,Opd.get,zk,bin,zzc,IntKind.signed,zi,zj,zl,zb,unary,ze,zd,za,zo,zr,zh,zf,zg,zp,Cp.isFull,isNil,zq,simprocAttr,SQX,V.cells,hb,zn (hA _ _),List.getElem?_cons_zero,List.getElem?_cons_succ])))
 all_goals simp_all
end
section
theorem xd1 {base:Nat} (op:Int) (n:Nat) (c:UInt8) (hc:c.toNat=n) (h:Heap):WpF S0 base x1E [.sc (.int .i64 op),.sc (.string ⟨#[c]⟩)] h fun v h'=>v=.bool (decide (letB op=n))∧h'=h:=by
 have:=xb6 (base:=base) op ⟨#[c]⟩ h (by show 1<1000;decide)
 have e:(((⟨#[c]⟩:ByteArray).data.toList.any fun c=>letB op==c.toNat)=decide (letB op=n)):=by
  show (letB op==c.toNat||false)=_
  rw [hc,Bool.or_false,Bool.eq_iff_iff];simp
 rw [e] at this
 exact this
theorem xfc {base:Nat} (op:Int) (h:Heap):WpF S0 base x5H [.sc (.int .i64 op)] h fun v h'=>v=.bool (rdI op)∧h'=h:=by
 have h1:=fun base h=>xd1 (base:=base) op 76 76 rfl h
 have h2:=fun base h=>xd1 (base:=base) op 65 65 rfl h
 have e1:=xou op
 have e2:=xly op
 first | refine zu (A:=x0S) rfl rfl rfl rfl ?_ | refine zB (A:=x0S) rfl rfl rfl rfl ?_
 simp only [x0S,oD,cD,τ,φ,ι]
 (simp only [SQ,zm,AOp.opds,step,Opd.get,zk,bin,zzc,IntKind.signed,zi,zj,zl,zb,unary,ze,zd,za,zo,zr,zh,zf,zg,zp,Cp.isFull,isNil,zq,simprocAttr,SQX,V.cells,zn (h1 _ _),zn (h2 _ _)];repeat' ((first | refine x0G ?_ ?_ | refine x0u ?_ ?_ | refine x0v ?_ ?_)<;>(intro hb;simp only [SQ,zm,AOp.opds,step,Opd.get,zk,bin,zzc,IntKind.signed,zi,zj,zl,zb,unary,ze,zd,za,zo,zr,zh,zf,zg,zp,Cp.isFull,isNil,zq,simprocAttr,SQX,V.cells,hb,zn (h1 _ _),zn (h2 _ _)])))
 all_goals clear h1 h2
 all_goals simp only [V.sc.injEq,V.tup.injEq,List.cons.injEq,Value.bool.injEq,and_true]
 all_goals simp only [decide_eq_true_eq,decide_eq_false_iff_not,x4S,Bool.not_eq_true',Bool.not_eq_false',e1,e2] at *
 all_goals (try refine ⟨?_,?_⟩)
 all_goals (rw [Bool.eq_iff_iff];simp only [rdI,wrI,accI,xbv,x4S,decide_eq_true_eq,Bool.false_eq_true,true_iff,false_iff,iff_true,iff_false,bne_iff_ne,ne_eq,Bool.not_eq_true',Bool.not_eq_false',decide_eq_false_iff_not,decide_eq_true_eq,Bool.and_eq_true];omega)
theorem xeJ {base:Nat} (op:Int) (h:Heap):WpF S0 base x5G [.sc (.int .i64 op)] h fun v h'=>v=.bool (wrI op)∧h'=h:=by
 have h1:=fun base h=>xd1 (base:=base) op 83 83 rfl h
 have h2:=fun base h=>xd1 (base:=base) op 65 65 rfl h
 have e1:=xot op
 have e2:=xly op
 first | refine zu (A:=x0R) rfl rfl rfl rfl ?_ | refine zB (A:=x0R) rfl rfl rfl rfl ?_
 simp only [x0R,oD,cD,τ,φ,ι]
 (simp only [SQ,zm,AOp.opds,step,Opd.get,zk,bin,zzc,IntKind.signed,zi,zj,zl,zb,unary,ze,zd,za,zo,zr,zh,zf,zg,zp,Cp.isFull,isNil,zq,simprocAttr,SQX,V.cells,zn (h1 _ _),zn (h2 _ _)];repeat' ((first | refine x0G ?_ ?_ | refine x0u ?_ ?_ | refine x0v ?_ ?_)<;>(intro hb;simp only [SQ,zm,AOp.opds,step,Opd.get,zk,bin,zzc,IntKind.signed,zi,zj,zl,zb,unary,ze,zd,za,zo,zr,zh,zf,zg,zp,Cp.isFull,isNil,zq,simprocAttr,SQX,V.cells,hb,zn (h1 _ _),zn (h2 _ _)])))
 all_goals clear h1 h2
 all_goals simp only [V.sc.injEq,V.tup.injEq,List.cons.injEq,Value.bool.injEq,and_true]
 all_goals simp only [decide_eq_true_eq,decide_eq_false_iff_not,x4S,Bool.not_eq_true',Bool.not_eq_false',e1,e2] at *
 all_goals (try refine ⟨?_,?_⟩)
 all_goals (rw [Bool.eq_iff_iff];simp only [rdI,wrI,accI,xbv,x4S,decide_eq_true_eq,Bool.false_eq_true,true_iff,false_iff,iff_true,iff_false,bne_iff_ne,ne_eq,Bool.not_eq_true',Bool.not_eq_false',decide_eq_false_iff_not,decide_eq_true_eq,Bool.and_eq_true];omega)
theorem xeE {base:Nat} (op:Int) (h:Heap):WpF S0 base x5F [.sc (.int .i64 op)] h fun v h'=>v=.bool (accI op)∧h'=h:=by
 have h1:=fun base h=>xfc (base:=base) op h
 have h2:=fun base h=>xeJ (base:=base) op h
 have ha:=xjh op
 first | refine zu (A:=x0O) rfl rfl rfl rfl ?_ | refine zB (A:=x0O) rfl rfl rfl rfl ?_
 simp only [x0O,oD,cD,τ,φ,ι]
 (simp only [SQ,zm,AOp.opds,step,Opd.get,zk,bin,zzc,IntKind.signed,zi,zj,zl,zb,unary,ze,zd,za,zo,zr,zh,zf,zg,zp,Cp.isFull,isNil,zq,simprocAttr,SQX,V.cells,zn (h1 _ _),zn (h2 _ _)];repeat' ((first | refine x0G ?_ ?_ | refine x0u ?_ ?_ | refine x0v ?_ ?_)<;>(intro hb;simp only [SQ,zm,AOp.opds,step,Opd.get,zk,bin,zzc,IntKind.signed,zi,zj,zl,zb,unary,ze,zd,za,zo,zr,zh,zf,zg,zp,Cp.isFull,isNil,zq,simprocAttr,SQX,V.cells,hb,zn (h1 _ _),zn (h2 _ _)])))
 all_goals simp_all
end
section
def xkv (o:Option Nat) (l:List Nat):List Nat:=match o with | some b=>b::l | none=>l
def xdY (en:Env):List Nat→List Nat
 | []=>[]
 | t::ts=>xkv (x1F (en t)) (xdY en ts)
theorem x9E {b:Nat} {l:List Nat}:xkv (some b) l=b::l:=rfl
theorem x9F {l:List Nat}:xkv none l=l:=rfl
theorem xai {en:Env} {h h':Heap}:∀ {ts:List Nat},xaS en h h' ts=true↔∀ b∈xdY en ts,h'[b]?=h[b]?
 | []=>by simp [xaS,xdY]
 | t::ts=>by
  have ih:=xai (en:=en) (h:=h) (h':=h') (ts:=ts)
  simp only [xaS,List.all_cons,Bool.and_eq_true,xdY] at ih ⊢
  cases hb:x1F (en t) with
  | none=>simp only [x9F];rw [← ih];simp
  | some b =>
   simp only [x9E,List.mem_cons,forall_eq_or_imp]
   rw [← ih,x7m]
   constructor
   ·rintro ⟨a,c⟩;exact ⟨a.symm,c⟩
   ·rintro ⟨a,c⟩;exact ⟨a.symm,c⟩
def xje (S:Fns) (base:Nat) (t:Option (FuncId×List V)) (bs:List Nat) (dst:Option Nat) (r:List AOper) (en:Env) (h:Heap) (Q:Env→Heap→Prop):Prop :=
 match t with
 | some (k,vs)=>WpF S base k vs h fun v h1=>(∀ b∈bs,h1[b]?=h[b]?)∧WpO S base r (en.put dst v) h1 Q
 | none=>False
section
variable {S:Fns} {base:Nat} {dst:Option Nat} {r:List AOper} {en:Env} {Q:Env→Heap→Prop} {h:Heap}
theorem x7K {f:Opd} {args:List Opd} {ts:List Nat}:WpO S base (⟨dst,.callK f args ts,none,[]⟩::r) en h Q↔xje S base (zr (f.get en) (zh en args)) (xdY en ts) dst r en h Q:=by
 have ev:∀ n,x0M (x0j S.X S.F n) base ⟨dst,.callK f args ts,none,[]⟩ en h=match zr (f.get en) (zh en args) with
   | some (k,vs)=>match x0j S.X S.F n base k vs h with
    | some (v,h')=>if xaS en h h' ts=true then some (v,h') else none
    | none=>none
   | none=>none:=fun n=>by simp only [x0M,x1x,x5c,List.all_nil,if_true,evOp];rfl
 constructor
 ·rintro ⟨n,en',h',e,q⟩
  rw [x0i,Option.bind_eq_some_iff] at e
  obtain ⟨⟨v,h1⟩,e1,e2⟩:=e
  rw [ev] at e1
  cases ht:zr (f.get en) (zh en args) with
  | none=>rw [ht] at e1;simp at e1
  | some p =>
   obtain ⟨k,vs⟩:=p
   rw [ht] at e1
   simp only at e1
   split at e1
   ·rename_i v' h'' e3
    split at e1
    ·rename_i hk
     simp only [Option.some.injEq,Prod.mk.injEq] at e1
     obtain ⟨rfl,rfl⟩:=e1
     exact ⟨n,_,_,e3,xai.1 hk,n,en',h',e2,q⟩
    ·simp at e1
   ·simp at e1
 ·intro hq
  cases ht:zr (f.get en) (zh en args) with
  | none=>rw [ht] at hq;exact hq.elim
  | some p =>
   obtain ⟨k,vs⟩:=p
   rw [ht] at hq
   obtain ⟨n,v,h1,e1,hk,m,en',h',e2,q⟩:=hq
   refine ⟨max n m,en',h',?_,q⟩
   rw [x0i,ev,ht]
   simp only [x14 (X:=S.X) (F:=S.F) (Nat.le_max_left n m) _ _ _ _ _ e1,xai.2 hk,if_true,Option.bind_some]
   exact x2U (x14 (Nat.le_max_right n m)) e2
theorem x7J {k:FuncId} {vs:List V} {bs:List Nat} {h0:Heap} {v0:V} (hw:WpF S base k vs h fun v h'=>v=v0∧h'=h0):xje S base (some (k,vs)) bs dst r en h Q↔(∀ b∈bs,h0[b]?=h[b]?)∧WpO S base r (en.put dst v0) h0 Q:=xgU (Q:=fun v h1=>(∀ b∈bs,h1[b]?=h[b]?)∧WpO S base r (en.put dst v) h1 Q) hw
end
theorem xjg {base:Nat} {h:Heap} {t:TypeId} {sz:Nat} {new:List (List V)} (hn:new≠[]) (hl:new.length≤lim) (ho:x5m sz new=true):x1D base h t sz (.sc (.slice none 0 0)) new=some (.hsl h.length 0 0 new.length,h++[.row t sz 0 new]):=by
 cases new with
 | nil=>exact absurd rfl hn
 | cons r rs=>simp only [x1D];rw [if_pos ⟨hl,ho⟩]
theorem xmX {base b e:Nat} {h:Heap} {t:TypeId} {sz:Nat} {rs new:List (List V)} (hg:h[b]?=some (.row t sz e rs)) (hn:new≠[]) (hl:rs.length+new.length≤lim) (ho:x5m sz new=true) (hb:base≤b):x1D base h t sz (.hsl b e 0 rs.length) new=some (.hsl b (e+1) 0 (rs.length+new.length),h.set b (.row t sz (e+1) (rs++new))):=by
 cases new with
 | nil=>exact absurd rfl hn
 | cons r r2 =>
  simp only [x1D,hg]
  rw [if_pos ⟨trivial,trivial,trivial,Nat.le_refl _,hl,ho,List.all_eq_true.2 fun x _=>by simp [x0H,hb]⟩,List.take_of_length_le (Nat.le_refl _),if_pos trivial]
theorem xkH {base b e len:Nat} {h:Heap} {t:TypeId} {sz:Nat} {rs new:List (List V)} (hg:h[b]?=some (.row t sz e rs)) (hle:len≤rs.length) (hn:new≠[]) (hl:len+new.length≤lim) (ho:x5m sz new=true) (hb:base≤b):x1D base h t sz (.hsl b e 0 len) new=some (.hsl b (e+1) 0 (len+new.length),h.set b (.row t sz (e+1) (rs.take len++new++rs.drop (len+new.length)))):=by
 cases new with
 | nil=>exact absurd rfl hn
 | cons r r2 =>
  simp only [x1D,hg]
  rw [if_pos ⟨trivial,trivial,trivial,hle,hl,ho,List.all_eq_true.2 fun x _=>by simp [x0H,hb]⟩]
  split
  ·rw [List.drop_eq_nil_of_le (by omega),List.append_nil]
  ·rfl
end
end Go.Am
