/-
  Chapter 3: checking the proof of an element. No condition.
-/
import Derived.Test.YtcddalfeicoedaaDoorW94G14x3
set_option linter.all false
open Nat renaming add_le_add->wA,shiftRight_eq_div_pow->wB,exists_eq_add_of_le'->wC,and_le_right->wD,le_trans->wE,mod_eq_of_lt->wF,div_add_mod->wG,add_zero->wH
open BitVec renaming toNat_and->wI,toNat_ushiftRight->wJ,toNat_ofNat->wK,toNat_add->wL
namespace Go.Proofs.S94.M
open Go Go.Ev Go.Proofs Go.Mk
open Go.Proofs.S94.H (GlK GlR)
variable {gl :Gl} {n:Nat}
theorem d25A :dd34.mA=[zsy,zsx,z81]:=rfl
theorem d25B :dd34.mB=m34B:=rfl
theorem zno :dd34.fos=[(.o 31 (.l 11))]:=rfl
theorem zje :dd34.dargs=[(.t 31),(.t 10)]:=rfl
theorem zxk :dd34.fS=56:=rfl
theorem ztg :dd34.fd=fd56:=rfl
theorem zhj :dd34.slots=[1,2,5,9,10,11]:=rfl
theorem d25d :dd34.d=41000:=rfl
theorem zxl :dd34.dd=51000:=rfl
theorem znn :dd34.res=[.cell 10 false 1]:=rfl
theorem checkI_bad (h:2<=n){leaf root:Dg}{i N:Int}{f:Bool}{sh:Sh}{p:List Dg}(hb:N<1\/N>1099511627776\/i<0\/i>=N)(hf:leaf.length=16)(hr:root.length=16) :
  call gl tab n 34 [bAV leaf,i64 i,i64 N,.lst f sh (dgL p),bAV root] []=some (.bool false,[],[]):=by
 obtain⟨d,rfl⟩:=wC h
 have l1:=b16t hf
 have l2:=H.bytes_all leaf
 have r1:=b16t hr
 have r2:=H.bytes_all root
 rw[zmd (fd:=fd34) rfl]
 by_cases h1:N<1
 . simp(disch:=apply zq;omega) only[go_sem,simprocAttr,↓Nat.reduceEqDiff,xx,d25A,d25B,zno,zje,zxk,ztg,zhj,d25d,zxl,znn,zsy,zsx,↓out16_eq,H.out16_len,H.out16_all,H.out16_pl,hf,hr,l1,l2,r1,r2]
 by_cases h2:N>1099511627776
 . simp(disch:=apply zq;omega) only[go_sem,simprocAttr,↓Nat.reduceEqDiff,xx,d25A,d25B,zno,zje,zxk,ztg,zhj,d25d,zxl,znn,zsy,zsx,↓out16_eq,H.out16_len,H.out16_all,H.out16_pl,hf,hr,l1,l2,r1,r2]
 by_cases h3:i<0
 . simp(disch:=apply zq;omega) only[go_sem,simprocAttr,↓Nat.reduceEqDiff,xx,d25A,d25B,zno,zje,zxk,ztg,zhj,d25d,zxl,znn,zsy,zsx,↓out16_eq,H.out16_len,H.out16_all,H.out16_pl,hf,hr,l1,l2,r1,r2]
 have h4:i>=N:=by omega
 simp(disch:=apply zq;omega) only[go_sem,simprocAttr,↓Nat.reduceEqDiff,xx,d25A,d25B,zno,zje,zxk,ztg,zhj,d25d,zxl,znn,zsy,zsx,↓out16_eq,H.out16_len,H.out16_all,H.out16_pl,hf,hr,l1,l2,r1,r2]
theorem zk0 {D:DfD}(hD:D.fd=fd56){cl:Cl}{k:Nat}{f:Bool}{sh:Sh}{p:List Dg}{s b:Bool} :
  dfS D gl cl k [.ptr 100000 [],.ptr 100001 []] [(100000,PS f sh p s),(100001,.fix .sc (.bool b))]=some (.tup [],[(100000,PS f sh p s),(100001,.fix .sc (.bool (b&& !s&&decide (p.length=0))))],[]):=by
 have hL:=dgL_length p
 rw[qd4,hD,if_pos (show(zi8 fd56.pk&&mcLt fd56.body)=true from rfl)]
 cases b with
 | false=>simp(disch:=apply zq;omega) only[go_sem,simprocAttr,↓Nat.reduceEqDiff,xx,fd56,m56,hL]
 | true =>
   cases s with
   | true=>simp(disch:=apply zq;omega) only[go_sem,simprocAttr,↓Nat.reduceEqDiff,xx,fd56,m56,hL]
   | false =>
     by_cases h0:p.length=0
     . simp(disch:=apply zq;omega) only[go_sem,simprocAttr,↓Nat.reduceEqDiff,xx,fd56,m56,hL,h0]
     . simp(disch:=apply zq;omega) only[go_sem,simprocAttr,↓Nat.reduceEqDiff,xx,fd56,m56,hL,h0]
section
variable [Nonempty (GlK gl)]
theorem qeq (h:59<=n){leaf root:Dg}{i N:Nat}{f:Bool}{sh:Sh}{p:List Dg}(hN:1<=N)(hN2:N<=1099511627776)(hi:i<N)(hf:leaf.length=16)(hr:root.length=16)(ha:All16 p)(hl:p.length<=1000000)(hs:Sd p sh sB) :
  ∃hp,zpn dd34 gl (call gl tab n) [i64 i,i64 N,.ptr 100000 [],.ptr 100001 [],.ptr 100002 [],.ptr 100003 []] [.ptr 100004 [],.ptr 100002 []]
   [(100000,.fix (.ar 16 .sc) (bAV leaf)),(100001,.fix (.ar 16 .sc) (bAV root)),(100002,.fix .sc (.bool false)),(100003,.fix .sc (.ptr 100004 [])),(100004,PS f sh p false)] =
   some (.bool (decide (p.length=dep i N/\cl nd z16 leaf i N p=root)),[(100000,.fix (.ar 16 .sc) (bAV leaf)),(100001,.fix (.ar 16 .sc) (bAV root)),(100002,.fix .sc (.bool (decide (p.length=dep i N/\cl nd z16 leaf i N p=root)))),(100003,.fix .sc (.ptr 100004 [])),(100004,hp)],[]):=by
 have l1:=b16t hf
 have l2:=H.bytes_all leaf
 have r1:=b16t hr
 have r2:=H.bytes_all root
 have h40:N<=2^40:=by
   have:(2:Nat)^40=1099511627776:=by decide
   omega
 obtain⟨f2,a⟩:=@z5q gl _ 40 n leaf i N f sh p false hf h40 hN hi (by omega) (by omega) ha hl hs
 have c1:=@z19 z16 leaf hf i N p
 have c2:=eqB c1 hr
 have c3:=H.bytes_all (cl nd z16 leaf i N p)
 have hL2:(lft p (dep i N)).length=p.length-dep i N:=by rw[lft,List.length_take];omega
 have hS:shr p false (dep i N)=decide (p.length<dep i N):=by simp[shr]
 rw[hS]at a
 have hD:(decide (cl nd z16 leaf i N p=root)&& !(decide (p.length<dep i N))&&decide ((lft p (dep i N)).length=0))=decide (p.length=dep i N/\cl nd z16 leaf i N p=root):=by
  rw[hL2,Bool.eq_iff_iff]
  simp only[Bool.and_eq_true,decide_eq_true_eq,Bool.not_eq_true',decide_eq_false_iff_not]
  constructor
  . rintro ⟨⟨h1,h2⟩,h3⟩;exact⟨by omega,h1⟩
  . rintro ⟨h1,h2⟩;exact⟨⟨h2,by omega⟩,by omega⟩
 have st:=fun b=>@zk0 gl dd34 ztg (call gl tab n) 56 f2 sh (lft p (dep i N)) (decide (p.length<dep i N)) b
 refine⟨PS f2 sh (lft p (dep i N)) (decide (p.length<dep i N)),?_⟩
 generalize cl nd z16 leaf i N p=q at *
 have st1:=st (decide (q=root))
 rw[hD]at st1
 generalize decide (p.length=dep i N/\q=root)=b2 at *
 generalize hb:decide (q=root)=b at *
 generalize lft p (dep i N)=p2 at *
 generalize dep i N=k at *
 rw[zpm]
 simp(disch:=apply zq;omega) only[go_sem,simprocAttr,↓Nat.reduceEqDiff,xx,d25A,d25B,zno,zje,zxk,ztg,zhj,d25d,zxl,znn,m34B,hf,hr,l1,l2,r1,r2,a,c1,c2,c3,zet,st1]
theorem checkI_ok (h:60<=n){leaf root:Dg}{i N:Nat}{f:Bool}{sh:Sh}{p:List Dg}(hN:1<=N)(hN2:N<=1099511627776)(hi:i<N)(hf:leaf.length=16)(hr:root.length=16)(ha:All16 p)(hl:p.length<=1000000)(hs:Sd p sh sB) :
  call gl tab n 34 [bAV leaf,i64 i,i64 N,.lst f sh (dgL p),bAV root] []=some (.bool (decide (p.length=dep i N/\cl nd z16 leaf i N p=root)),[],[]):=by
 obtain⟨d,rfl⟩:=wC h
 have l1:=b16t hf
 have l2:=H.bytes_all leaf
 have r1:=b16t hr
 have r2:=H.bytes_all root
 obtain⟨hp,a⟩:=@qeq gl (d+59) _ (by omega) leaf root i N f sh p hN hN2 hi hf hr ha hl hs
 generalize decide (p.length=dep i N/\cl nd z16 leaf i N p=root)=b at *
 rw[zmd (fd:=fd34) rfl]
 simp(disch:=apply zq;omega) only[go_sem,simprocAttr,↓Nat.reduceEqDiff,xx,d25A,d25B,zno,zje,zxk,ztg,zhj,d25d,zxl,znn,zsy,zsx,z81,↓out16_eq,H.out16_len,H.out16_all,H.out16_pl,hf,hr,l1,l2,r1,r2,a]
end
end Go.Proofs.S94.M
namespace Go.Proofs.S94.M.B
open Go Go.Ev Go.Proofs
open Go.Proofs.S94
variable {gl :Gl} {n:Nat}
theorem zlr (a b c d:Nat)(hb:b<256)(hd:d<256):(256*a+b)&&&(256*c+d)=256*(a&&&c)+(b&&&d):=by
 have e1:((256*a+b)&&&(256*c+d))/256=a&&&c:=by
  have:=Nat.shiftRight_and_distrib (a:=256*a+b) (b:=256*c+d) (i:=8)
  simp only[wB]at this
  rw[show(2:Nat)^8=256 from rfl]at this
  rw[this];congr 1<;>omega
 have e2:((256*a+b)&&&(256*c+d))%256=b&&&d:=by
  have:=Nat.and_mod_two_pow (a:=256*a+b) (b:=256*c+d) (n:=8)
  rw[show(2:Nat)^8=256 from rfl]at this
  rw[this];congr 1<;>omega
 rw[<-e1,<-e2];exact(wG _ 256).symm
def mk (m:Nat):Nat->Nat
 | 0=>0
 | k+1=>256*mk m k+m
def y1 (b:Nat):Nat:=((b/2)&&&85)+(b&&&85)
def y2 (b:Nat):Nat:=((b/4)&&&51)+(b&&&51)
def y3 (b:Nat):Nat:=(b/16+b)&&&15
def X1 (k x:Nat):Nat:=((x/2)&&&mk 85 k)+(x&&&mk 85 k)
def X2 (k x:Nat):Nat:=((x/4)&&&mk 51 k)+(x&&&mk 51 k)
def X3 (k x:Nat):Nat:=(x/16+x)&&&mk 15 k
theorem d1 :∀t:Fin 2,∀y:Fin 128,(128*t.val+y.val)&&&85=y.val&&&85:=by decide +kernel
theorem d2 :∀t:Fin 4,∀y:Fin 64,(64*t.val+y.val)&&&51=y.val&&&51:=by decide +kernel
theorem d3 :∀y:Fin 256,y.val&&&15=y.val%16:=by decide +kernel
theorem dy :∀b:Fin 256,y1 b.val<256/\y2 (y1 b.val)<256/\y2 (y1 b.val)/16<=4/\y2 (y1 b.val)%16<=4/\y3 (y2 (y1 b.val))<=8:=by decide +kernel
theorem X1_s (k a b:Nat)(hb:b<256):X1 (k+1) (256*a+b)=256*X1 k a+y1 b:=by
 unfold X1 y1
 have e:(256*a+b)/2=256*(a/2)+(128*(a%2)+b/2):=by omega
 have h1:=d1 ⟨a%2,by omega⟩ ⟨b/2,by omega⟩
 simp only at h1
 rw[e,mk,zlr _ _ _ _ (by omega) (by omega),zlr _ _ _ _ hb (by omega),h1];omega
theorem X2_s (k a b:Nat)(hb:b<256):X2 (k+1) (256*a+b)=256*X2 k a+y2 b:=by
 unfold X2 y2
 have e:(256*a+b)/4=256*(a/4)+(64*(a%4)+b/4):=by omega
 have h1:=d2 ⟨a%4,by omega⟩ ⟨b/4,by omega⟩
 simp only at h1
 rw[e,mk,zlr _ _ _ _ (by omega) (by omega),zlr _ _ _ _ hb (by omega),h1];omega
theorem X3_s (k a b:Nat)(hb:b/16<=4/\b%16<=4)(ha:a%16<=4):X3 (k+1) (256*a+b)=256*X3 k a+y3 b:=by
 unfold X3 y3
 have e:(256*a+b)/16+(256*a+b)=256*(a/16+a)+(16*(a%16)+b/16+b):=by omega
 have h1:=d3 ⟨16*(a%16)+b/16+b,by omega⟩
 have h2:=d3 ⟨b/16+b,by omega⟩
 simp only at h1 h2
 rw[e,mk,zlr _ _ _ _ (by omega) (by omega),h1,h2];omega
def pcb (b:Nat):Nat:=y3 (y2 (y1 b))
def Z (k x:Nat):Nat:=X3 k (X2 k (X1 k x))
theorem qfc (k x:Nat):X2 k (X1 k x)%16<=4:=by
 cases k with
 | zero=>simp[X2,mk]
 | succ k =>
   have e:x=256*(x/256)+x%256:=(wG x 256).symm
   have h:=dy ⟨x%256,by omega⟩
   simp only at h
   rw[e,X1_s _ _ _ (by omega),X2_s _ _ _ h.1];omega
theorem Z_s (k a b:Nat)(hb:b<256):Z (k+1) (256*a+b)=256*Z k a+pcb b:=by
 have h:=dy ⟨b,hb⟩
 simp only at h
 unfold Z pcb
 rw[X1_s _ _ _ hb,X2_s _ _ _ h.1,X3_s _ _ _ ⟨h.2.2.1,h.2.2.2.1⟩ (qfc k a)]
theorem Z_0 (x:Nat):Z 0 x=0:=by simp[Z,X3,mk]
theorem pcb_le (b:Nat)(h:b<256):pcb b<=8:=(dy ⟨b,h⟩).2.2.2.2
theorem Z_8 {x:Nat}(hx:x<2^64):∃b0 b1 b2 b3 b4 b5 b6 b7:Nat,b0<256/\b1<256/\b2<256/\b3<256/\b4<256/\b5<256/\b6<256/\b7<256 /\
  x=256*(256*(256*(256*(256*(256*(256*b7+b6)+b5)+b4)+b3)+b2)+b1)+b0 /\
  Z 8 x=256*(256*(256*(256*(256*(256*(256*pcb b7+pcb b6)+pcb b5)+pcb b4)+pcb b3)+pcb b2)+pcb b1)+pcb b0:=by
 refine⟨x%256,x/256%256,x/256/256%256,x/256/256/256%256,x/256/256/256/256%256,x/256/256/256/256/256%256,x/256/256/256/256/256/256%256,x/256/256/256/256/256/256/256%256,by omega,by omega,by omega,by omega,by omega,by omega,by omega,by omega,by omega,?_⟩
 have s:∀k y,Z (k+1) y=256*Z k (y/256)+pcb (y%256):=fun k y=>by
  have:=Z_s k (y/256) (y%256) (by omega)
  rwa [wG]at this
 rw[s,s,s,s,s,s,s,s,Z_0]
 simp only[Nat.mul_zero,Nat.zero_add]
def a1 (x:BitVec 64):BitVec 64:=(x>>>(1:Nat)&&&6148914691236517205#64)+(x&&&6148914691236517205#64)
def a2 (x:BitVec 64):BitVec 64:=(x>>>(2:Nat)&&&3689348814741910323#64)+(x&&&3689348814741910323#64)
def a3 (x:BitVec 64):BitVec 64:=(x>>>(4:Nat)+x)&&&1085102592571150095#64
def a4 (x:BitVec 64):BitVec 64:=x+x>>>(8:Nat)
def a5 (x:BitVec 64):BitVec 64:=x+x>>>(16:Nat)
def a6 (x:BitVec 64):BitVec 64:=x+x>>>(32:Nat)
def sw (x:BitVec 64):BitVec 64:=a6 (a5 (a4 (a3 (a2 (a1 x)))))
theorem ones_at (h:1<=n)(x:BitVec 64):call gl tab n 87 [.int .u64 (x.toNat:Int)] []=some (.int .i64 (sw x&&&127#64).toInt,[],[]):=by
 obtain⟨d,rfl⟩:=wC h
 rw[zae (fd:=fd87) rfl]
 have h127:BitVec.ofInt 64 127=127#64:=rfl
 simp(disch:=apply zq;omega) only[go_sem,simprocAttr,↓Nat.reduceEqDiff,xx,fd87,m87,qa0,h127,sw,a6,a5,a4,a3,a2,a1]
theorem mk85 :mk 85 8=6148914691236517205:=by decide
theorem mk51 :mk 51 8=3689348814741910323:=by decide
theorem mk15 :mk 15 8=1085102592571150095:=by decide
theorem qfb (x:BitVec 64):(a1 x).toNat=X1 8 x.toNat/\X1 8 x.toNat<=12297829382473034410:=by
 have h1:=wD (n:=x.toNat/2) (m:=6148914691236517205)
 have h2:=wD (n:=x.toNat) (m:=6148914691236517205)
 unfold a1 X1
 rw[mk85,wL,wI,wI,wJ,wB]
 simp only[wK,Nat.reducePow,Nat.reduceMod]
 omega
theorem qfa (x:BitVec 64):(a2 x).toNat=X2 8 x.toNat/\X2 8 x.toNat<=7378697629483820646:=by
 have h1:=wD (n:=x.toNat/4) (m:=3689348814741910323)
 have h2:=wD (n:=x.toNat) (m:=3689348814741910323)
 unfold a2 X2
 rw[mk51,wL,wI,wI,wJ,wB]
 simp only[wK,Nat.reducePow,Nat.reduceMod]
 omega
theorem qe9 (x:BitVec 64)(h:x.toNat<=7378697629483820646):(a3 x).toNat=X3 8 x.toNat:=by
 unfold a3 X3
 rw[mk15,wI,wL,wJ,wB]
 simp only[wK,Nat.reducePow,Nat.reduceMod]
 rw[wF (by omega)]
theorem Z_nat (x:BitVec 64):(a3 (a2 (a1 x))).toNat=Z 8 x.toNat:=by
 have h1:=qfb x
 have h2:=qfa (a1 x)
 rw[qe9 _ (by rw[h2.1];exact h2.2),h2.1,h1.1];rfl
theorem dv (c x r:Nat)(hc:0<c)(h:r<c):(c*x+r)/c=x:=by
 rw[Nat.mul_add_div hc,Nat.div_eq_of_lt h,wH]
theorem zod {z:BitVec 64}{k:Nat}{c x r:Nat}(hk:c=2^k)(hz:z.toNat=c*x+r)(hr:r<c)(hb:c*x+r+x<18446744073709551616):(z+z>>>k).toNat=c*x+r+x:=by
 rw[wL,wJ,wB,<-hk,hz,dv c x r (by rw[hk];exact Nat.pow_pos (by omega)) hr]
 exact wF hb
theorem lin4 {p0 p1 p2 p3 p4 p5 p6 p7:Nat}:256*(256*(256*(256*(256*(256*(256*p7+p6)+p5)+p4)+p3)+p2)+p1)+p0+(256*(256*(256*(256*(256*(256*p7+p6)+p5)+p4)+p3)+p2)+p1) =
  65536*(256*(256*(256*(256*(256*p7+(p6+p7))+(p5+p6))+(p4+p5))+(p3+p4))+(p2+p3))+(256*(p1+p2)+(p0+p1)):=by omega
theorem lin5 {q0 q1 q2 q3 q4 q5 q6 q7:Nat}:65536*(256*(256*(256*(256*(256*q7+q6)+q5)+q4)+q3)+q2)+(256*q1+q0)+(256*(256*(256*(256*(256*q7+q6)+q5)+q4)+q3)+q2) =
  4294967296*(256*(256*(256*q7+q6)+(q5+q7))+(q4+q6))+(256*(256*(256*(q3+q5)+(q2+q4))+(q1+q3))+(q0+q2)):=by omega
theorem lin6 {r0 r1 r2 r3 r4 r5 r6 r7:Nat}:4294967296*(256*(256*(256*r7+r6)+r5)+r4)+(256*(256*(256*r3+r2)+r1)+r0)+(256*(256*(256*r7+r6)+r5)+r4) =
  128*(33554432*(256*(256*(256*r7+r6)+r5)+r4)+2*(256*(256*r3+r2)+r1)+2*(256*(256*r7+r6)+r5))+(r0+r4):=by omega
theorem qe8 {z:BitVec 64}{p0 p1 p2 p3 p4 p5 p6 p7:Nat}(h:z.toNat=256*(256*(256*(256*(256*(256*(256*p7+p6)+p5)+p4)+p3)+p2)+p1)+p0)
  (h0:p0<=8) (h1:p1<=8) (h2:p2<=8) (h3:p3<=8) (h4:p4<=8) (h5:p5<=8) (h6:p6<=8) (h7:p7<=8) :
  (a4 z).toNat=65536*(256*(256*(256*(256*(256*p7+(p6+p7))+(p5+p6))+(p4+p5))+(p3+p4))+(p2+p3))+(256*(p1+p2)+(p0+p1)):=by
 rw[<-lin4]
 exact zod (k:=8) (c:=256) rfl h (by omega) (by omega)
theorem qe7 {z:BitVec 64}{q0 q1 q2 q3 q4 q5 q6 q7:Nat}(h:z.toNat=65536*(256*(256*(256*(256*(256*q7+q6)+q5)+q4)+q3)+q2)+(256*q1+q0))
  (h0:q0<=16) (h1:q1<=16) (h2:q2<=16) (h3:q3<=16) (h4:q4<=16) (h5:q5<=16) (h6:q6<=16) (h7:q7<=16) :
  (a5 z).toNat=4294967296*(256*(256*(256*q7+q6)+(q5+q7))+(q4+q6))+(256*(256*(256*(q3+q5)+(q2+q4))+(q1+q3))+(q0+q2)):=by
 rw[<-lin5]
 exact zod (k:=16) (c:=65536) rfl h (by omega) (by omega)
theorem qe6 {z:BitVec 64}{r0 r1 r2 r3 r4 r5 r6 r7:Nat}(h:z.toNat=4294967296*(256*(256*(256*r7+r6)+r5)+r4)+(256*(256*(256*r3+r2)+r1)+r0))
  (h0:r0<=32) (h1:r1<=32) (h2:r2<=32) (h3:r3<=32) (h4:r4<=32) (h5:r5<=32) (h6:r6<=32) (h7:r7<=32):(a6 z&&&127#64).toNat=r0+r4:=by
 have e:=zod (k:=32) (c:=4294967296) rfl h (by omega) (by omega)
 rw[lin6]at e
 have e2:(127#64).toNat=2^7-1:=rfl
 rw[wI,e2,Nat.and_two_pow_sub_one_eq_mod,a6,e]
 generalize 33554432*(256*(256*(256*r7+r6)+r5)+r4)+2*(256*(256*r3+r2)+r1)+2*(256*(256*r7+r6)+r5)=K
 omega
theorem tail_nat {z:BitVec 64}{p0 p1 p2 p3 p4 p5 p6 p7:Nat}(h0:p0<=8)(h1:p1<=8)(h2:p2<=8)(h3:p3<=8)(h4:p4<=8)(h5:p5<=8)(h6:p6<=8)(h7:p7<=8)
  (h:z.toNat=256*(256*(256*(256*(256*(256*(256*p7+p6)+p5)+p4)+p3)+p2)+p1)+p0) :
  (a6 (a5 (a4 z))&&&127#64).toNat=p0+p1+(p2+p3)+(p4+p5+(p6+p7)):=by
 have b0:p0+p1<=16:=wA h0 h1
 have b1:p1+p2<=16:=wA h1 h2
 have b2:p2+p3<=16:=wA h2 h3
 have b3:p3+p4<=16:=wA h3 h4
 have b4:p4+p5<=16:=wA h4 h5
 have b5:p5+p6<=16:=wA h5 h6
 have b6:p6+p7<=16:=wA h6 h7
 have e4:=qe8 h h0 h1 h2 h3 h4 h5 h6 h7
 have e5:=qe7 (z:=a4 z) (q0:=p0+p1) (q1:=p1+p2) (q2:=p2+p3) (q3:=p3+p4) (q4:=p4+p5) (q5:=p5+p6) (q6:=p6+p7) (q7:=p7) e4 b0 b1 b2 b3 b4 b5 b6 (wE h7 (by decide))
 exact qe6 (z:=a5 (a4 z)) (r0:=p0+p1+(p2+p3)) (r1:=p1+p2+(p3+p4)) (r2:=p2+p3+(p4+p5)) (r3:=p3+p4+(p5+p6)) (r4:=p4+p5+(p6+p7)) (r5:=p5+p6+p7) (r6:=p6+p7) (r7:=p7) e5
  (wA b0 b2) (wA b1 b3) (wA b2 b4) (wA b3 b5) (wA b4 b6) (wE (wA b5 h7) (by decide)) (wE b6 (by decide)) (wE h7 (by decide))
end Go.Proofs.S94.M.B
namespace Go.Proofs.S94.M
open Go Go.Ev Go.Proofs Go.Mk
open Go.Proofs.S94.H (GlK GlR)
variable {gl :Gl} {n:Nat}
theorem zqs :∀(k a b:Nat),b<2^k->pcn (2^k*a+b)=pcn a+pcn b
 | 0,a,b,h=>by
   obtain rfl:b=0:=by simpa using h
   rw[pcn_0];simp
 | k+1,a,b,h=>by
   have e:2^(k+1)=2*2^k:=by rw[Nat.pow_succ];omega
   have ih:=zqs k a (b/2) (by omega)
   rw[pcn_two (2^(k+1)*a+b),pcn_two b,e,Nat.mul_assoc,show(2*(2^k*a)+b)%2=b%2 by omega,show(2*(2^k*a)+b)/2=2^k*a+b/2 by omega,ih]
   omega
theorem zsn (a:Nat){b:Nat}(h:b<256):pcn (256*a+b)=pcn a+pcn b:=zqs 8 a b h
theorem z34 :∀b:Fin 256,B.pcb b.val=b.val%2+(b.val/2%2+(b.val/2/2%2+(b.val/2/2/2%2+(b.val/2/2/2/2%2+(b.val/2/2/2/2/2%2+(b.val/2/2/2/2/2/2%2+b.val/2/2/2/2/2/2/2%2)))))):=by decide +kernel
theorem zgk {b:Nat}(h:b<256):B.pcb b=pcn b:=by
 have:=z34 ⟨b,h⟩
 simp only at this
 rw[this,pcn_two b,pcn_two (b/2),pcn_two (b/2/2),pcn_two (b/2/2/2),pcn_two (b/2/2/2/2),pcn_two (b/2/2/2/2/2),pcn_two (b/2/2/2/2/2/2),pcn_two (b/2/2/2/2/2/2/2),show b/2/2/2/2/2/2/2/2=0 by omega,pcn_0,wH]
theorem qbr (x:BitVec 64):(B.sw x&&&127#64).toInt=(pcn x.toNat:Int):=by
 have hlt:=x.isLt
 obtain⟨b0,b1,b2,b3,b4,b5,b6,b7,l0,l1,l2,l3,l4,l5,l6,l7,he,hz⟩:=B.Z_8 (x:=x.toNat) (by omega)
 have hn:=B.Z_nat x
 rw[hz]at hn
 have q0:=B.pcb_le _ l0;have q1:=B.pcb_le _ l1;have q2:=B.pcb_le _ l2;have q3:=B.pcb_le _ l3
 have q4:=B.pcb_le _ l4;have q5:=B.pcb_le _ l5;have q6:=B.pcb_le _ l6;have q7:=B.pcb_le _ l7
 have ht:=B.tail_nat q0 q1 q2 q3 q4 q5 q6 q7 hn
 have h':(B.sw x&&&127#64).toNat=B.pcb b0+B.pcb b1+(B.pcb b2+B.pcb b3)+(B.pcb b4+B.pcb b5+(B.pcb b6+B.pcb b7)):=ht
 have hp:pcn x.toNat=B.pcb b0+B.pcb b1+(B.pcb b2+B.pcb b3)+(B.pcb b4+B.pcb b5+(B.pcb b6+B.pcb b7)):=by
  rw[he,zsn _ l0,zsn _ l1,zsn _ l2,zsn _ l3,zsn _ l4,zsn _ l5,zsn _ l6,zgk l0,zgk l1,zgk l2,zgk l3,zgk l4,zgk l5,zgk l6,zgk l7]
  omega
 have hs:B.pcb b0+B.pcb b1+(B.pcb b2+B.pcb b3)+(B.pcb b4+B.pcb b5+(B.pcb b6+B.pcb b7))<=64:=by
  clear hn ht h' hp hz he
  omega
 rw[<-hp]at h' hs
 rw[BitVec.toInt_eq_toNat_of_lt (by rw[h'];omega),h']
theorem z38 (h:2<=n){x:Nat}(hx:x<=1099511627776):call gl tab n 70 [.int .u64 (x:Int)] []=some (i64 (pcn x),[],[]):=by
 obtain⟨d,rfl⟩:=wC h
 have e:(BitVec.ofNat 64 x).toNat=x:=by rw[wK,wF (by omega)]
 have c:=@B.ones_at gl (d+1) (by omega) (BitVec.ofNat 64 x)
 rw[qbr,e]at c
 generalize pcn x=y at *
 rw[zae (fd:=fd70) rfl]
 simp(disch:=apply zq;omega) only[go_sem,simprocAttr,↓Nat.reduceEqDiff,xx,fd70,m70,c]
end Go.Proofs.S94.M
