/-
  Chapter 3: checking the proof of an element. No condition.
-/
import Derived.Test.YtcddalfeicoedaaGreatDoorW44G15x7
set_option linter.unusedVariables false
set_option linter.unusedSimpArgs false
set_option linter.unusedSectionVars false
namespace Go.Proofs.S44.M
open Go Go.Ev Go.Proofs Go.Mk
open Go.Proofs.S44.H (GlK GlR)
variable {gl :Gl} {n:Nat}
theorem d25A :dd71.mA=[m71_0,m71_1,m71_2]:=rfl
theorem d25B :dd71.mB=m71B:=rfl
theorem d25fos :dd71.fos=[(.o 31 (.l 11))]:=rfl
theorem zju :dd71.dargs=[(.t 31),(.t 10)]:=rfl
theorem d25fS :dd71.fS=119:=rfl
theorem d25fd :dd71.fd=fd119:=rfl
theorem zht :dd71.slots=[1,2,5,9,10,11]:=rfl
theorem d25d :dd71.d=41000:=rfl
theorem d25dd :dd71.dd=51000:=rfl
theorem d25res :dd71.res=[.cell 10 false 1]:=rfl
theorem checkI_bad (h:2<=n){leaf root:Dg}{i N:Int}{f:Bool}{sh:Sh}{p:List Dg}(hb:N<1\/N>1099511627776\/i<0\/i>=N)(hf:leaf.length=16)(hr:root.length=16) :
  call gl tab n 71 [bAV leaf,i64 i,i64 N,.lst f sh (dgL p),bAV root] []=some (.bool false,[],[]):=by
 obtain⟨d,rfl⟩:=Nat.exists_eq_add_of_le' h
 have l1:=b16t hf
 have l2:=H.bytes_all leaf
 have r1:=b16t hr
 have r2:=H.bytes_all root
 rw[call_df (fd:=fd71) rfl]
 by_cases h1:N<1
 . simp(disch:=(fail_if_success intro _);omega) only[go_sem,simprocAttr,↓Nat.reduceEqDiff,xx,d25A,d25B,d25fos,zju,d25fS,d25fd,zht,d25d,d25dd,d25res,m71_0,m71_1,↓out16_eq,H.oo,hf,hr,l1,l2,r1,r2]
 by_cases h2:N>1099511627776
 . simp(disch:=(fail_if_success intro _);omega) only[go_sem,simprocAttr,↓Nat.reduceEqDiff,xx,d25A,d25B,d25fos,zju,d25fS,d25fd,zht,d25d,d25dd,d25res,m71_0,m71_1,↓out16_eq,H.oo,hf,hr,l1,l2,r1,r2]
 by_cases h3:i<0
 . simp(disch:=(fail_if_success intro _);omega) only[go_sem,simprocAttr,↓Nat.reduceEqDiff,xx,d25A,d25B,d25fos,zju,d25fS,d25fd,zht,d25d,d25dd,d25res,m71_0,m71_1,↓out16_eq,H.oo,hf,hr,l1,l2,r1,r2]
 have h4:i>=N:=by omega
 simp(disch:=(fail_if_success intro _);omega) only[go_sem,simprocAttr,↓Nat.reduceEqDiff,xx,d25A,d25B,d25fos,zju,d25fS,d25fd,zht,d25d,d25dd,d25res,m71_0,m71_1,↓out16_eq,H.oo,hf,hr,l1,l2,r1,r2]
theorem zld {D:DfD}(hD:D.fd=fd119){cl:Cl}{k:Nat}{f:Bool}{sh:Sh}{p:List Dg}{s b:Bool} :
  dfS D gl cl k [.ptr 100000 [],.ptr 100001 []] [(100000,PS f sh p s),(100001,.fix .sc (.bool b))]=some (.tup [],[(100000,PS f sh p s),(100001,.fix .sc (.bool (b&& !s&&decide (p.length=0))))],[]):=by
 have hL:=dgL_length p
 rw[dfS_at,hD,if_pos (show(zjn fd119.pk&&mcLt fd119.body)=true from rfl)]
 cases b with
 | false=>simp(disch:=(fail_if_success intro _);omega) only[go_sem,simprocAttr,↓Nat.reduceEqDiff,xx,fd119,m119,hL]
 | true =>
   cases s with
   | true=>simp(disch:=(fail_if_success intro _);omega) only[go_sem,simprocAttr,↓Nat.reduceEqDiff,xx,fd119,m119,hL]
   | false =>
     by_cases h0:p.length=0
     . simp(disch:=(fail_if_success intro _);omega) only[go_sem,simprocAttr,↓Nat.reduceEqDiff,xx,fd119,m119,hL,h0]
     . simp(disch:=(fail_if_success intro _);omega) only[go_sem,simprocAttr,↓Nat.reduceEqDiff,xx,fd119,m119,hL,h0]
section
variable [Nonempty (GlK gl)]
theorem body25 (h:59<=n){leaf root:Dg}{i N:Nat}{f:Bool}{sh:Sh}{p:List Dg}(hN:1<=N)(hN2:N<=1099511627776)(hi:i<N)(hf:leaf.length=16)(hr:root.length=16)(ha:All16 p)(hl:p.length<=1000000)(hs:Sd p sh sB) :
  ∃hp,evDfB dd71 gl (call gl tab n) [i64 i,i64 N,.ptr 100000 [],.ptr 100001 [],.ptr 100002 [],.ptr 100003 []] [.ptr 100004 [],.ptr 100002 []]
   [(100000,.fix (.ar 16 .sc) (bAV leaf)),(100001,.fix (.ar 16 .sc) (bAV root)),(100002,.fix .sc (.bool false)),(100003,.fix .sc (.ptr 100004 [])),(100004,PS f sh p false)] =
   some (.bool (decide (p.length=dep i N/\cl nd z16 leaf i N p=root)),[(100000,.fix (.ar 16 .sc) (bAV leaf)),(100001,.fix (.ar 16 .sc) (bAV root)),(100002,.fix .sc (.bool (decide (p.length=dep i N/\cl nd z16 leaf i N p=root)))),(100003,.fix .sc (.ptr 100004 [])),(100004,hp)],[]):=by
 have l1:=b16t hf
 have l2:=H.bytes_all leaf
 have r1:=b16t hr
 have r2:=H.bytes_all root
 have h40:N<=2^40:=by have:(2:Nat)^40=1099511627776:=by decide
                      omega
 obtain⟨f2,a⟩:=@climb_at gl _ 40 n leaf i N f sh p false hf h40 hN hi (by omega) (by omega) ha hl hs
 have c1:=@cl_len z16 leaf hf i N p
 have c2:=eqB c1 hr
 have c3:=H.bytes_all (cl nd z16 leaf i N p)
 have hL2:(lft p (dep i N)).length=p.length-dep i N:=by rw[lft,List.length_take];omega
 have hS:shr p false (dep i N)=decide (p.length<dep i N):=by simp[shr]
 rw[hS]at a
 have hD:(decide (cl nd z16 leaf i N p=root)&& !(decide (p.length<dep i N))&&decide ((lft p (dep i N)).length=0))=decide (p.length=dep i N/\cl nd z16 leaf i N p=root):=by
  rw[hL2,Bool.eq_iff_iff]
  simp only[Bool.and_eq_true,decide_eq_true_eq,Bool.not_eq_true',decide_eq_false_iff_not]
  constructor
  . rintro ⟨⟨h1,h2⟩,h3⟩;exact⟨by omega,h1⟩
  . rintro ⟨h1,h2⟩;exact⟨⟨h2,by omega⟩,by omega⟩
 have st:=fun b=>@zld gl dd71 d25fd (call gl tab n) 119 f2 sh (lft p (dep i N)) (decide (p.length<dep i N)) b
 refine⟨PS f2 sh (lft p (dep i N)) (decide (p.length<dep i N)),?_⟩
 generalize cl nd z16 leaf i N p=q at *
 have st1:=st (decide (q=root))
 rw[hD]at st1
 generalize decide (p.length=dep i N/\q=root)=b2 at *
 generalize hb:decide (q=root)=b at *
 generalize lft p (dep i N)=p2 at *
 generalize dep i N=k at *
 rw[evDfB_at]
 simp(disch:=(fail_if_success intro _);omega) only[go_sem,simprocAttr,↓Nat.reduceEqDiff,xx,d25A,d25B,d25fos,zju,d25fS,d25fd,zht,d25d,d25dd,d25res,m71B,hf,hr,l1,l2,r1,r2,a,c1,c2,c3,zfn,st1]
theorem checkI_ok (h:60<=n){leaf root:Dg}{i N:Nat}{f:Bool}{sh:Sh}{p:List Dg}(hN:1<=N)(hN2:N<=1099511627776)(hi:i<N)(hf:leaf.length=16)(hr:root.length=16)(ha:All16 p)(hl:p.length<=1000000)(hs:Sd p sh sB) :
  call gl tab n 71 [bAV leaf,i64 i,i64 N,.lst f sh (dgL p),bAV root] []=some (.bool (decide (p.length=dep i N/\cl nd z16 leaf i N p=root)),[],[]):=by
 obtain⟨d,rfl⟩:=Nat.exists_eq_add_of_le' h
 have l1:=b16t hf
 have l2:=H.bytes_all leaf
 have r1:=b16t hr
 have r2:=H.bytes_all root
 obtain⟨hp,a⟩:=@body25 gl (d+59) _ (by omega) leaf root i N f sh p hN hN2 hi hf hr ha hl hs
 generalize decide (p.length=dep i N/\cl nd z16 leaf i N p=root)=b at *
 rw[call_df (fd:=fd71) rfl]
 simp(disch:=(fail_if_success intro _);omega) only[go_sem,simprocAttr,↓Nat.reduceEqDiff,xx,d25A,d25B,d25fos,zju,d25fS,d25fd,zht,d25d,d25dd,d25res,m71_0,m71_1,m71_2,↓out16_eq,H.oo,hf,hr,l1,l2,r1,r2,a]
end
end Go.Proofs.S44.M
namespace Go.Proofs.S44.M.B
open Go Go.Ev Go.Proofs
open Go.Proofs.S44
variable {gl :Gl} {n:Nat}
theorem land256 (a b c d:Nat)(hb:b<256)(hd:d<256):(256*a+b)&&&(256*c+d)=256*(a&&&c)+(b&&&d):=by
 have e1:((256*a+b)&&&(256*c+d))/256=a&&&c:=by
  have:=Nat.shiftRight_and_distrib (a:=256*a+b) (b:=256*c+d) (i:=8)
  simp only[Nat.shiftRight_eq_div_pow]at this
  rw[show(2:Nat)^8=256 from rfl]at this
  rw[this];congr 1<;>omega
 have e2:((256*a+b)&&&(256*c+d))%256=b&&&d:=by
  have:=Nat.and_mod_two_pow (a:=256*a+b) (b:=256*c+d) (n:=8)
  rw[show(2:Nat)^8=256 from rfl]at this
  rw[this];congr 1<;>omega
 rw[<-e1,<-e2];exact(Nat.div_add_mod _ 256).symm
def mk (m:Nat):Nat->Nat
 | 0=>0
 | k+1=>256*mk m k+m
def y1 (b:Nat):Nat:=((b/2)&&&85)+(b&&&85)
def y2 (b:Nat):Nat:=((b/4)&&&51)+(b&&&51)
def y3 (b:Nat):Nat:=(b/16+b)&&&15
def X1 (k x:Nat):Nat:=((x/2)&&&mk 85 k)+(x&&&mk 85 k)
def X2 (k x:Nat):Nat:=((x/4)&&&mk 51 k)+(x&&&mk 51 k)
def X3 (k x:Nat):Nat:=(x/16+x)&&&mk 15 k
theorem d1 :∀t:Fin 2,∀y:Fin 128,(128*t.val+y.val)&&&85=y.val&&&85:=by decide +kernel
theorem d2 :∀t:Fin 4,∀y:Fin 64,(64*t.val+y.val)&&&51=y.val&&&51:=by decide +kernel
theorem d3 :∀y:Fin 256,y.val&&&15=y.val%16:=by decide +kernel
theorem dy :∀b:Fin 256,y1 b.val<256/\y2 (y1 b.val)<256/\y2 (y1 b.val)/16<=4/\y2 (y1 b.val)%16<=4/\y3 (y2 (y1 b.val))<=8:=by decide +kernel
theorem X1_s (k a b:Nat)(hb:b<256):X1 (k+1) (256*a+b)=256*X1 k a+y1 b:=by
 unfold X1 y1
 have e:(256*a+b)/2=256*(a/2)+(128*(a%2)+b/2):=by omega
 have h1:=d1 ⟨a%2,by omega⟩ ⟨b/2,by omega⟩
 simp only at h1
 rw[e,mk,land256 _ _ _ _ (by omega) (by omega),land256 _ _ _ _ hb (by omega),h1];omega
theorem X2_s (k a b:Nat)(hb:b<256):X2 (k+1) (256*a+b)=256*X2 k a+y2 b:=by
 unfold X2 y2
 have e:(256*a+b)/4=256*(a/4)+(64*(a%4)+b/4):=by omega
 have h1:=d2 ⟨a%4,by omega⟩ ⟨b/4,by omega⟩
 simp only at h1
 rw[e,mk,land256 _ _ _ _ (by omega) (by omega),land256 _ _ _ _ hb (by omega),h1];omega
theorem X3_s (k a b:Nat)(hb:b/16<=4/\b%16<=4)(ha:a%16<=4):X3 (k+1) (256*a+b)=256*X3 k a+y3 b:=by
 unfold X3 y3
 have e:(256*a+b)/16+(256*a+b)=256*(a/16+a)+(16*(a%16)+b/16+b):=by omega
 have h1:=d3 ⟨16*(a%16)+b/16+b,by omega⟩
 have h2:=d3 ⟨b/16+b,by omega⟩
 simp only at h1 h2
 rw[e,mk,land256 _ _ _ _ (by omega) (by omega),h1,h2];omega
def pcb (b:Nat):Nat:=y3 (y2 (y1 b))
def Z (k x:Nat):Nat:=X3 k (X2 k (X1 k x))
theorem X2_low (k x:Nat):X2 k (X1 k x)%16<=4:=by
 cases k with
 | zero=>simp[X2,mk]
 | succ k =>
   have e:x=256*(x/256)+x%256:=(Nat.div_add_mod x 256).symm
   have h:=dy ⟨x%256,by omega⟩
   simp only at h
   rw[e,X1_s _ _ _ (by omega),X2_s _ _ _ h.1];omega
theorem Z_s (k a b:Nat)(hb:b<256):Z (k+1) (256*a+b)=256*Z k a+pcb b:=by
 have h:=dy ⟨b,hb⟩
 simp only at h
 unfold Z pcb
 rw[X1_s _ _ _ hb,X2_s _ _ _ h.1,X3_s _ _ _ ⟨h.2.2.1,h.2.2.2.1⟩ (X2_low k a)]
theorem Z_0 (x:Nat):Z 0 x=0:=by simp[Z,X3,mk]
theorem pcb_le (b:Nat)(h:b<256):pcb b<=8:=(dy ⟨b,h⟩).2.2.2.2
theorem Z_8 {x:Nat}(hx:x<2^64):∃b0 b1 b2 b3 b4 b5 b6 b7:Nat,b0<256/\b1<256/\b2<256/\b3<256/\b4<256/\b5<256/\b6<256/\b7<256 /\
  x=256*(256*(256*(256*(256*(256*(256*b7+b6)+b5)+b4)+b3)+b2)+b1)+b0 /\
  Z 8 x=256*(256*(256*(256*(256*(256*(256*pcb b7+pcb b6)+pcb b5)+pcb b4)+pcb b3)+pcb b2)+pcb b1)+pcb b0:=by
 refine⟨x%256,x/256%256,x/256/256%256,x/256/256/256%256,x/256/256/256/256%256,x/256/256/256/256/256%256,x/256/256/256/256/256/256%256,x/256/256/256/256/256/256/256%256,by omega,by omega,by omega,by omega,by omega,by omega,by omega,by omega,by omega,?_⟩
 have s:∀k y,Z (k+1) y=256*Z k (y/256)+pcb (y%256):=fun k y=>by
  have:=Z_s k (y/256) (y%256) (by omega)
  rwa [Nat.div_add_mod]at this
 rw[s,s,s,s,s,s,s,s,Z_0]
 simp only[Nat.mul_zero,Nat.zero_add]
def a1 (x:BitVec 64):BitVec 64:=(x>>>(1:Nat)&&&6148914691236517205#64)+(x&&&6148914691236517205#64)
def a2 (x:BitVec 64):BitVec 64:=(x>>>(2:Nat)&&&3689348814741910323#64)+(x&&&3689348814741910323#64)
def a3 (x:BitVec 64):BitVec 64:=(x>>>(4:Nat)+x)&&&1085102592571150095#64
def a4 (x:BitVec 64):BitVec 64:=x+x>>>(8:Nat)
def a5 (x:BitVec 64):BitVec 64:=x+x>>>(16:Nat)
def a6 (x:BitVec 64):BitVec 64:=x+x>>>(32:Nat)
def sw (x:BitVec 64):BitVec 64:=a6 (a5 (a4 (a3 (a2 (a1 x)))))
theorem ones_at (h:1<=n)(x:BitVec 64):call gl tab n 164 [.int .u64 (x.toNat:Int)] []=some (.int .i64 (sw x&&&127#64).toInt,[],[]):=by
 obtain⟨d,rfl⟩:=Nat.exists_eq_add_of_le' h
 rw[zad (fd:=fd164) rfl]
 have h127:BitVec.ofInt 64 127=127#64:=rfl
 simp(disch:=(fail_if_success intro _);omega) only[go_sem,simprocAttr,↓Nat.reduceEqDiff,xx,fd164,m164,and_i64,h127,sw,a6,a5,a4,a3,a2,a1]
theorem mk85 :mk 85 8=6148914691236517205:=by decide
theorem mk51 :mk 51 8=3689348814741910323:=by decide
theorem mk15 :mk 15 8=1085102592571150095:=by decide
theorem a1_nat (x:BitVec 64):(a1 x).toNat=X1 8 x.toNat/\X1 8 x.toNat<=12297829382473034410:=by
 have h1:=Nat.and_le_right (n:=x.toNat/2) (m:=6148914691236517205)
 have h2:=Nat.and_le_right (n:=x.toNat) (m:=6148914691236517205)
 unfold a1 X1
 rw[mk85,BitVec.toNat_add,BitVec.toNat_and,BitVec.toNat_and,BitVec.toNat_ushiftRight,Nat.shiftRight_eq_div_pow]
 simp only[BitVec.toNat_ofNat,Nat.reducePow,Nat.reduceMod]
 omega
theorem a2_nat (x:BitVec 64):(a2 x).toNat=X2 8 x.toNat/\X2 8 x.toNat<=7378697629483820646:=by
 have h1:=Nat.and_le_right (n:=x.toNat/4) (m:=3689348814741910323)
 have h2:=Nat.and_le_right (n:=x.toNat) (m:=3689348814741910323)
 unfold a2 X2
 rw[mk51,BitVec.toNat_add,BitVec.toNat_and,BitVec.toNat_and,BitVec.toNat_ushiftRight,Nat.shiftRight_eq_div_pow]
 simp only[BitVec.toNat_ofNat,Nat.reducePow,Nat.reduceMod]
 omega
theorem a3_nat (x:BitVec 64)(h:x.toNat<=7378697629483820646):(a3 x).toNat=X3 8 x.toNat:=by
 unfold a3 X3
 rw[mk15,BitVec.toNat_and,BitVec.toNat_add,BitVec.toNat_ushiftRight,Nat.shiftRight_eq_div_pow]
 simp only[BitVec.toNat_ofNat,Nat.reducePow,Nat.reduceMod]
 rw[Nat.mod_eq_of_lt (by omega)]
theorem Z_nat (x:BitVec 64):(a3 (a2 (a1 x))).toNat=Z 8 x.toNat:=by
 have h1:=a1_nat x
 have h2:=a2_nat (a1 x)
 rw[a3_nat _ (by rw[h2.1];exact h2.2),h2.1,h1.1];rfl
theorem dv (c x r:Nat)(hc:0<c)(h:r<c):(c*x+r)/c=x:=by
 rw[Nat.mul_add_div hc,Nat.div_eq_of_lt h,Nat.add_zero]
theorem step_nat {z:BitVec 64}{k:Nat}{c x r:Nat}(hk:c=2^k)(hz:z.toNat=c*x+r)(hr:r<c)(hb:c*x+r+x<18446744073709551616):(z+z>>>k).toNat=c*x+r+x:=by
 rw[BitVec.toNat_add,BitVec.toNat_ushiftRight,Nat.shiftRight_eq_div_pow,<-hk,hz,dv c x r (by rw[hk];exact Nat.pow_pos (by omega)) hr]
 exact Nat.mod_eq_of_lt hb
theorem lin4 {p0 p1 p2 p3 p4 p5 p6 p7:Nat}:256*(256*(256*(256*(256*(256*(256*p7+p6)+p5)+p4)+p3)+p2)+p1)+p0+(256*(256*(256*(256*(256*(256*p7+p6)+p5)+p4)+p3)+p2)+p1) =
  65536*(256*(256*(256*(256*(256*p7+(p6+p7))+(p5+p6))+(p4+p5))+(p3+p4))+(p2+p3))+(256*(p1+p2)+(p0+p1)):=by omega
theorem lin5 {q0 q1 q2 q3 q4 q5 q6 q7:Nat}:65536*(256*(256*(256*(256*(256*q7+q6)+q5)+q4)+q3)+q2)+(256*q1+q0)+(256*(256*(256*(256*(256*q7+q6)+q5)+q4)+q3)+q2) =
  4294967296*(256*(256*(256*q7+q6)+(q5+q7))+(q4+q6))+(256*(256*(256*(q3+q5)+(q2+q4))+(q1+q3))+(q0+q2)):=by omega
theorem lin6 {r0 r1 r2 r3 r4 r5 r6 r7:Nat}:4294967296*(256*(256*(256*r7+r6)+r5)+r4)+(256*(256*(256*r3+r2)+r1)+r0)+(256*(256*(256*r7+r6)+r5)+r4) =
  128*(33554432*(256*(256*(256*r7+r6)+r5)+r4)+2*(256*(256*r3+r2)+r1)+2*(256*(256*r7+r6)+r5))+(r0+r4):=by omega
theorem a4_nat {z:BitVec 64}{p0 p1 p2 p3 p4 p5 p6 p7:Nat}(h:z.toNat=256*(256*(256*(256*(256*(256*(256*p7+p6)+p5)+p4)+p3)+p2)+p1)+p0)
  (h0:p0<=8) (h1:p1<=8) (h2:p2<=8) (h3:p3<=8) (h4:p4<=8) (h5:p5<=8) (h6:p6<=8) (h7:p7<=8) :
  (a4 z).toNat=65536*(256*(256*(256*(256*(256*p7+(p6+p7))+(p5+p6))+(p4+p5))+(p3+p4))+(p2+p3))+(256*(p1+p2)+(p0+p1)):=by
 rw[<-lin4]
 exact step_nat (k:=8) (c:=256) rfl h (by omega) (by omega)
theorem a5_nat {z:BitVec 64}{q0 q1 q2 q3 q4 q5 q6 q7:Nat}(h:z.toNat=65536*(256*(256*(256*(256*(256*q7+q6)+q5)+q4)+q3)+q2)+(256*q1+q0))
  (h0:q0<=16) (h1:q1<=16) (h2:q2<=16) (h3:q3<=16) (h4:q4<=16) (h5:q5<=16) (h6:q6<=16) (h7:q7<=16) :
  (a5 z).toNat=4294967296*(256*(256*(256*q7+q6)+(q5+q7))+(q4+q6))+(256*(256*(256*(q3+q5)+(q2+q4))+(q1+q3))+(q0+q2)):=by
 rw[<-lin5]
 exact step_nat (k:=16) (c:=65536) rfl h (by omega) (by omega)
theorem a6_nat {z:BitVec 64}{r0 r1 r2 r3 r4 r5 r6 r7:Nat}(h:z.toNat=4294967296*(256*(256*(256*r7+r6)+r5)+r4)+(256*(256*(256*r3+r2)+r1)+r0))
  (h0:r0<=32) (h1:r1<=32) (h2:r2<=32) (h3:r3<=32) (h4:r4<=32) (h5:r5<=32) (h6:r6<=32) (h7:r7<=32):(a6 z&&&127#64).toNat=r0+r4:=by
 have e:=step_nat (k:=32) (c:=4294967296) rfl h (by omega) (by omega)
 rw[lin6]at e
 have e2:(127#64).toNat=2^7-1:=rfl
 rw[BitVec.toNat_and,e2,Nat.and_two_pow_sub_one_eq_mod,a6,e]
 generalize 33554432*(256*(256*(256*r7+r6)+r5)+r4)+2*(256*(256*r3+r2)+r1)+2*(256*(256*r7+r6)+r5)=K
 omega
theorem tail_nat {z:BitVec 64}{p0 p1 p2 p3 p4 p5 p6 p7:Nat}(h0:p0<=8)(h1:p1<=8)(h2:p2<=8)(h3:p3<=8)(h4:p4<=8)(h5:p5<=8)(h6:p6<=8)(h7:p7<=8)
  (h:z.toNat=256*(256*(256*(256*(256*(256*(256*p7+p6)+p5)+p4)+p3)+p2)+p1)+p0) :
  (a6 (a5 (a4 z))&&&127#64).toNat=p0+p1+(p2+p3)+(p4+p5+(p6+p7)):=by
 have b0:p0+p1<=16:=Nat.add_le_add h0 h1
 have b1:p1+p2<=16:=Nat.add_le_add h1 h2
 have b2:p2+p3<=16:=Nat.add_le_add h2 h3
 have b3:p3+p4<=16:=Nat.add_le_add h3 h4
 have b4:p4+p5<=16:=Nat.add_le_add h4 h5
 have b5:p5+p6<=16:=Nat.add_le_add h5 h6
 have b6:p6+p7<=16:=Nat.add_le_add h6 h7
 have e4:=a4_nat h h0 h1 h2 h3 h4 h5 h6 h7
 have e5:=a5_nat (z:=a4 z) (q0:=p0+p1) (q1:=p1+p2) (q2:=p2+p3) (q3:=p3+p4) (q4:=p4+p5) (q5:=p5+p6) (q6:=p6+p7) (q7:=p7) e4 b0 b1 b2 b3 b4 b5 b6 (Nat.le_trans h7 (by decide))
 exact a6_nat (z:=a5 (a4 z)) (r0:=p0+p1+(p2+p3)) (r1:=p1+p2+(p3+p4)) (r2:=p2+p3+(p4+p5)) (r3:=p3+p4+(p5+p6)) (r4:=p4+p5+(p6+p7)) (r5:=p5+p6+p7) (r6:=p6+p7) (r7:=p7) e5
  (Nat.add_le_add b0 b2) (Nat.add_le_add b1 b3) (Nat.add_le_add b2 b4) (Nat.add_le_add b3 b5) (Nat.add_le_add b4 b6) (Nat.le_trans (Nat.add_le_add b5 h7) (by decide)) (Nat.le_trans b6 (by decide)) (Nat.le_trans h7 (by decide))
end Go.Proofs.S44.M.B
namespace Go.Proofs.S44.M
open Go Go.Ev Go.Proofs Go.Mk
open Go.Proofs.S44.H (GlK GlR)
variable {gl :Gl} {n:Nat}
theorem pcn_shift :∀(k a b:Nat),b<2^k->pcn (2^k*a+b)=pcn a+pcn b
 | 0,a,b,h=>by
   obtain rfl:b=0:=by simpa using h
   rw[pcn_0];simp
 | k+1,a,b,h=>by
   have e:2^(k+1)=2*2^k:=by rw[Nat.pow_succ];omega
   have ih:=pcn_shift k a (b/2) (by omega)
   rw[pcn_two (2^(k+1)*a+b),pcn_two b,e,Nat.mul_assoc,show(2*(2^k*a)+b)%2=b%2 by omega,show(2*(2^k*a)+b)/2=2^k*a+b/2 by omega,ih]
   omega
theorem pcn_8 (a:Nat){b:Nat}(h:b<256):pcn (256*a+b)=pcn a+pcn b:=pcn_shift 8 a b h
theorem pcb_bits :∀b:Fin 256,B.pcb b.val=b.val%2+(b.val/2%2+(b.val/2/2%2+(b.val/2/2/2%2+(b.val/2/2/2/2%2+(b.val/2/2/2/2/2%2+(b.val/2/2/2/2/2/2%2+b.val/2/2/2/2/2/2/2%2)))))):=by decide +kernel
theorem zgm {b:Nat}(h:b<256):B.pcb b=pcn b:=by
 have:=pcb_bits ⟨b,h⟩
 simp only at this
 rw[this,pcn_two b,pcn_two (b/2),pcn_two (b/2/2),pcn_two (b/2/2/2),pcn_two (b/2/2/2/2),pcn_two (b/2/2/2/2/2),pcn_two (b/2/2/2/2/2/2),pcn_two (b/2/2/2/2/2/2/2),show b/2/2/2/2/2/2/2/2=0 by omega,pcn_0,Nat.add_zero]
theorem sw_pcn (x:BitVec 64):(B.sw x&&&127#64).toInt=(pcn x.toNat:Int):=by
 have hlt:=x.isLt
 obtain⟨b0,b1,b2,b3,b4,b5,b6,b7,l0,l1,l2,l3,l4,l5,l6,l7,he,hz⟩:=B.Z_8 (x:=x.toNat) (by omega)
 have hn:=B.Z_nat x
 rw[hz]at hn
 have q0:=B.pcb_le _ l0;have q1:=B.pcb_le _ l1;have q2:=B.pcb_le _ l2;have q3:=B.pcb_le _ l3
 have q4:=B.pcb_le _ l4;have q5:=B.pcb_le _ l5;have q6:=B.pcb_le _ l6;have q7:=B.pcb_le _ l7
 have ht:=B.tail_nat q0 q1 q2 q3 q4 q5 q6 q7 hn
 have h':(B.sw x&&&127#64).toNat=B.pcb b0+B.pcb b1+(B.pcb b2+B.pcb b3)+(B.pcb b4+B.pcb b5+(B.pcb b6+B.pcb b7)):=ht
 have hp:pcn x.toNat=B.pcb b0+B.pcb b1+(B.pcb b2+B.pcb b3)+(B.pcb b4+B.pcb b5+(B.pcb b6+B.pcb b7)):=by
  rw[he,pcn_8 _ l0,pcn_8 _ l1,pcn_8 _ l2,pcn_8 _ l3,pcn_8 _ l4,pcn_8 _ l5,pcn_8 _ l6,zgm l0,zgm l1,zgm l2,zgm l3,zgm l4,zgm l5,zgm l6,zgm l7]
  omega
 have hs:B.pcb b0+B.pcb b1+(B.pcb b2+B.pcb b3)+(B.pcb b4+B.pcb b5+(B.pcb b6+B.pcb b7))<=64:=by
  clear hn ht h' hp hz he
  omega
 rw[<-hp]at h' hs
 rw[BitVec.toInt_eq_toNat_of_lt (by rw[h'];omega),h']
theorem onesC_at (h:2<=n){x:Nat}(hx:x<=1099511627776):call gl tab n 144 [.int .u64 (x:Int)] []=some (i64 (pcn x),[],[]):=by
 obtain⟨d,rfl⟩:=Nat.exists_eq_add_of_le' h
 have e:(BitVec.ofNat 64 x).toNat=x:=by rw[BitVec.toNat_ofNat,Nat.mod_eq_of_lt (by omega)]
 have c:=@B.ones_at gl (d+1) (by omega) (BitVec.ofNat 64 x)
 rw[sw_pcn,e]at c
 generalize pcn x=y at *
 rw[zad (fd:=fd144) rfl]
 simp(disch:=(fail_if_success intro _);omega) only[go_sem,simprocAttr,↓Nat.reduceEqDiff,xx,fd144,m144,c]
end Go.Proofs.S44.M
namespace Go.Proofs.S44.M
open Go Go.Ev Go.Proofs Go.Mk
open Go.Proofs.S44.H (GlK GlR)
variable {gl :Gl} {n:Nat}
def dbl :List UInt8:=[0,1,56,2,57,49,28,3,61,58,42,50,38,29,17,4,62,47,59,36,45,43,51,22,53,39,33,30,24,18,12,5,63,55,48,27,60,41,37,16,46,35,44,21,52,32,23,11,54,26,40,15,34,20,31,10,25,14,19,9,13,8,7,6]
structure GlB (gl:Gl):Prop where
 b:gl.tbl 1=some (.ar 64 .sc,.agg (zac dbl))
theorem glB {gl:Gl}[h:Nonempty (GlB gl)]:gl.tbl 1=some (.ar 64 .sc,.agg (zac dbl)):=h.elim fun h=>h.b
theorem tr1_form :∀(c s:Nat),s<=c->∃q,s=2^(tr1 s+1)*q+(2^tr1 s-1)
 | c,s,h=>by
   by_cases h1:s%2=1
   . match c,h with
     | 0,h=>omega
     | c+1,h =>
       obtain⟨q,hq⟩:=tr1_form c (s/2) (by omega)
       refine⟨q,?_⟩
       rw[tr1_o h1]
       have hp:=Nat.two_pow_pos (tr1 (s/2))
       have e1:2^(tr1 (s/2)+1+1)*q=2*(2^(tr1 (s/2)+1)*q):=by rw[Nat.pow_succ _ (tr1 (s/2)+1),Nat.mul_comm _ 2,Nat.mul_assoc]
       have e2:2^(tr1 (s/2)+1)=2*2^tr1 (s/2):=by rw[Nat.pow_succ];omega
       rw[e1]
       generalize 2^(tr1 (s/2)+1)*q=u at *
       omega
   . refine⟨s/2,?_⟩
     rw[tr1_e (by omega)]
     simp only[Nat.zero_add,Nat.pow_one,Nat.pow_zero]
     omega
theorem low_bit {s t q:Nat}(hs:s=2^(t+1)*q+(2^t-1))(hlt:s<2^63)(ht:t<64) :
  (~~~ (BitVec.ofNat 64 s))&&&(BitVec.ofNat 64 (s+1))=BitVec.ofNat 64 (2^t):=by
 have hp:=Nat.two_pow_pos t
 have e2:2^(t+1)=2*2^t:=by rw[Nat.pow_succ];omega
 have hs1:s+1=2^(t+1)*q+2^t:=by omega
 refine BitVec.eq_of_getLsbD_eq fun i hi=> ?_
 simp only[BitVec.getLsbD_and,BitVec.getLsbD_not,BitVec.getLsbD_ofNat,hi,decide_true,Bool.true_and]
 rw[hs1,Nat.testBit_two_pow_mul_add _ (show 2^t<2^(t+1) by omega),hs,Nat.testBit_two_pow_mul_add _ (show 2^t-1<2^(t+1) by omega),Nat.testBit_two_pow_sub_one,Nat.testBit_two_pow]
 by_cases h1:i<t+1
 . rw[if_pos h1,if_pos h1]
   by_cases h2:i=t
   . subst h2;simp
   . have h3:i<t:=by omega
     have h4:¬t=i:=by omega
     simp[h3,h4]
 . rw[if_neg h1,if_neg h1]
   have h4:¬t=i:=by omega
   simp[h4]
theorem db_k :∀t:Fin 64,dbl[((BitVec.ofNat 64 (2^t.val)*285870213051353865#64)>>>(58:Nat)).toNat]? =some (UInt8.ofNat t.val)/\((BitVec.ofNat 64 (2^t.val)*285870213051353865#64)>>>(58:Nat)).toNat<64:=by decide +kernel
theorem u8_t :∀t:Fin 64,(UInt8.ofNat t.val).toNat=t.val:=by decide +kernel
theorem db_at {t:Nat}(h:t<64):∃k,((BitVec.ofNat 64 (2^t)*285870213051353865#64)>>>(58:Nat)).toNat=k/\k<64/\(zac dbl)[k]? =some (.int .u8 (t:Int)):=by
 obtain⟨h1,h2⟩:=db_k ⟨t,h⟩
 have h3:=u8_t ⟨t,h⟩
 simp only at h1 h2 h3
 refine⟨_,rfl,h2,?_⟩
 rw[zac,List.getElem?_map,h1,Option.map_some,h3]
theorem neg_not {s:Nat}(hs:s<=1099511627776):BitVec.ofInt 64 (0-((~~~ (BitVec.ofNat 64 s)).toNat:Int))=BitVec.ofNat 64 (s+1):=by
 have hx:(~~~ (BitVec.ofNat 64 s)).toNat=18446744073709551615-s:=by
  rw[BitVec.toNat_not,BitVec.toNat_ofNat,Nat.mod_eq_of_lt (by omega)]
 apply BitVec.eq_of_toNat_eq
 rw[BitVec.toNat_ofInt,BitVec.toNat_ofNat,hx]
 omega
theorem tr1_lt {s:Nat}(hs:s<=1099511627776):tr1 s<64:=by
 obtain⟨q,hq⟩:=tr1_form s s (Nat.le_refl _)
 have h1:2^tr1 s<=s+1:=by
  generalize 2^(tr1 s+1)*q=u at *
  omega
 have h2:2^tr1 s<2^64:=by omega
 exact(Nat.pow_lt_pow_iff_right (by omega)).1 h2
section
variable [Nonempty (GlB gl)]
theorem trail64_at (h:1<=n){s:Nat}(hs:s<=1099511627776):call gl tab n 146 [.int .u64 ((~~~ (BitVec.ofNat 64 s)).toNat:Int)] []=some (i64 (tr1 s),[],[]):=by
 obtain⟨d,rfl⟩:=Nat.exists_eq_add_of_le' h
 obtain⟨q,hq⟩:=tr1_form s s (Nat.le_refl _)
 have ht:=tr1_lt hs
 have hx:(~~~ (BitVec.ofNat 64 s)).toNat=18446744073709551615-s:=by
  rw[BitVec.toNat_not,BitVec.toNat_ofNat,Nat.mod_eq_of_lt (by omega)]
 have h0:(((~~~ (BitVec.ofNat 64 s)).toNat:Int)==0)=false:=by rw[beq_eq_false_iff_ne,hx];omega
 have h1:=neg_not hs
 have h2:=low_bit hq (by omega) ht
 obtain⟨k,h3,h4,h5⟩:=db_at ht
 clear hx hq
 generalize tr1 s=t at *
 generalize ~~~ (BitVec.ofNat 64 s)=x at *
 generalize BitVec.ofNat 64 (s+1)=y at *
 generalize BitVec.ofNat 64 (2^t)=z at *
 have hb:=zaa dbl
 rw[zad (fd:=fd146) rfl]
 simp(disch:=(fail_if_success intro _);omega) only[go_sem,simprocAttr,↓Nat.reduceEqDiff,xx,fd146,m146,glB,h0,h1,h2,h3,h5]
end
end Go.Proofs.S44.M
