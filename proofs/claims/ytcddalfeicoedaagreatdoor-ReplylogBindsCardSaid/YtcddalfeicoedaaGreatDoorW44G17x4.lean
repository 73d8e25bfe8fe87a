/-
  Chapter 3: counting the bits that are set. No condition.
-/
import Derived.Test.YtcddalfeicoedaaGreatDoorW44G16x4
set_option linter.all false
open Nat renaming add_le_add->wA,shiftRight_eq_div_pow->wB,exists_eq_add_of_le'->wC,mod_eq_of_lt->wD,and_le_right->wE,pow_succ->wF,le_trans->wG,div_add_mod->wH,testBit_two_pow_mul_add->wI,two_pow_pos->wJ,mul_assoc->wK,zero_add->wL,add_zero->wM,le_refl->wN
open BitVec renaming toNat_ofNat->wO,toNat_and->wP,toNat_ushiftRight->wQ,toNat_add->wR,toNat_not->wS
namespace Go.Proofs.S44.M.B
open Go Go.Ev Go.Proofs
open Go.Proofs.S44
variable {gl :Gl} {n:Nat}
theorem zly (a b c d:Nat)(hb:b<256)(hd:d<256):(256*a+b)&&&(256*c+d)=256*(a&&&c)+(b&&&d):=by
 have e1:((256*a+b)&&&(256*c+d))/256=a&&&c:=by
  have:=Nat.shiftRight_and_distrib (a:=256*a+b) (b:=256*c+d) (i:=8)
  simp only[wB]at this
  rw[show(2:Nat)^8=256 from rfl]at this
  rw[this];congr 1<;>omega
 have e2:((256*a+b)&&&(256*c+d))%256=b&&&d:=by
  have:=Nat.and_mod_two_pow (a:=256*a+b) (b:=256*c+d) (n:=8)
  rw[show(2:Nat)^8=256 from rfl]at this
  rw[this];congr 1<;>omega
 rw[<-e1,<-e2];exact(wH _ 256).symm
def mk (m:Nat):Nat->Nat
 | 0=>0
 | k+1=>256*mk m k+m
def y1 (b:Nat):Nat:=((b/2)&&&85)+(b&&&85)
def y2 (b:Nat):Nat:=((b/4)&&&51)+(b&&&51)
def y3 (b:Nat):Nat:=(b/16+b)&&&15
def X1 (k x:Nat):Nat:=((x/2)&&&mk 85 k)+(x&&&mk 85 k)
def X2 (k x:Nat):Nat:=((x/4)&&&mk 51 k)+(x&&&mk 51 k)
def X3 (k x:Nat):Nat:=(x/16+x)&&&mk 15 k
theorem d1 :∀t:Fin 2,∀y:Fin 128,(128*t.val+y.val)&&&85=y.val&&&85:=by decide +kernel
theorem d2 :∀t:Fin 4,∀y:Fin 64,(64*t.val+y.val)&&&51=y.val&&&51:=by decide +kernel
theorem d3 :∀y:Fin 256,y.val&&&15=y.val%16:=by decide +kernel
theorem dy :∀b:Fin 256,y1 b.val<256/\y2 (y1 b.val)<256/\y2 (y1 b.val)/16<=4/\y2 (y1 b.val)%16<=4/\y3 (y2 (y1 b.val))<=8:=by decide +kernel
theorem X1_s (k a b:Nat)(hb:b<256):X1 (k+1) (256*a+b)=256*X1 k a+y1 b:=by
 unfold X1 y1
 have e:(256*a+b)/2=256*(a/2)+(128*(a%2)+b/2):=by omega
 have h1:=d1 ⟨a%2,by omega⟩ ⟨b/2,by omega⟩
 simp only at h1
 rw[e,mk,zly _ _ _ _ (by omega) (by omega),zly _ _ _ _ hb (by omega),h1];omega
theorem X2_s (k a b:Nat)(hb:b<256):X2 (k+1) (256*a+b)=256*X2 k a+y2 b:=by
 unfold X2 y2
 have e:(256*a+b)/4=256*(a/4)+(64*(a%4)+b/4):=by omega
 have h1:=d2 ⟨a%4,by omega⟩ ⟨b/4,by omega⟩
 simp only at h1
 rw[e,mk,zly _ _ _ _ (by omega) (by omega),zly _ _ _ _ hb (by omega),h1];omega
theorem X3_s (k a b:Nat)(hb:b/16<=4/\b%16<=4)(ha:a%16<=4):X3 (k+1) (256*a+b)=256*X3 k a+y3 b:=by
 unfold X3 y3
 have e:(256*a+b)/16+(256*a+b)=256*(a/16+a)+(16*(a%16)+b/16+b):=by omega
 have h1:=d3 ⟨16*(a%16)+b/16+b,by omega⟩
 have h2:=d3 ⟨b/16+b,by omega⟩
 simp only at h1 h2
 rw[e,mk,zly _ _ _ _ (by omega) (by omega),h1,h2];omega
def pcb (b:Nat):Nat:=y3 (y2 (y1 b))
def Z (k x:Nat):Nat:=X3 k (X2 k (X1 k x))
theorem qgj (k x:Nat):X2 k (X1 k x)%16<=4:=by
 cases k with
 | zero=>simp[X2,mk]
 | succ k =>
   have e:x=256*(x/256)+x%256:=(wH x 256).symm
   have h:=dy ⟨x%256,by omega⟩
   simp only at h
   rw[e,X1_s _ _ _ (by omega),X2_s _ _ _ h.1];omega
theorem Z_s (k a b:Nat)(hb:b<256):Z (k+1) (256*a+b)=256*Z k a+pcb b:=by
 have h:=dy ⟨b,hb⟩
 simp only at h
 unfold Z pcb
 rw[X1_s _ _ _ hb,X2_s _ _ _ h.1,X3_s _ _ _ ⟨h.2.2.1,h.2.2.2.1⟩ (qgj k a)]
theorem Z_0 (x:Nat):Z 0 x=0:=by simp[Z,X3,mk]
theorem pcb_le (b:Nat)(h:b<256):pcb b<=8:=(dy ⟨b,h⟩).2.2.2.2
theorem Z_8 {x:Nat}(hx:x<2^64):∃b0 b1 b2 b3 b4 b5 b6 b7:Nat,b0<256/\b1<256/\b2<256/\b3<256/\b4<256/\b5<256/\b6<256/\b7<256 /\
  x=256*(256*(256*(256*(256*(256*(256*b7+b6)+b5)+b4)+b3)+b2)+b1)+b0 /\
  Z 8 x=256*(256*(256*(256*(256*(256*(256*pcb b7+pcb b6)+pcb b5)+pcb b4)+pcb b3)+pcb b2)+pcb b1)+pcb b0:=by
 refine⟨x%256,x/256%256,x/256/256%256,x/256/256/256%256,x/256/256/256/256%256,x/256/256/256/256/256%256,x/256/256/256/256/256/256%256,x/256/256/256/256/256/256/256%256,by omega,by omega,by omega,by omega,by omega,by omega,by omega,by omega,by omega,?_⟩
 have s:∀k y,Z (k+1) y=256*Z k (y/256)+pcb (y%256):=fun k y=>by
  have:=Z_s k (y/256) (y%256) (by omega)
  rwa [wH]at this
 rw[s,s,s,s,s,s,s,s,Z_0]
 simp only[Nat.mul_zero,wL]
def a1 (x:BitVec 64):BitVec 64:=(x>>>(1:Nat)&&&6148914691236517205#64)+(x&&&6148914691236517205#64)
def a2 (x:BitVec 64):BitVec 64:=(x>>>(2:Nat)&&&3689348814741910323#64)+(x&&&3689348814741910323#64)
def a3 (x:BitVec 64):BitVec 64:=(x>>>(4:Nat)+x)&&&1085102592571150095#64
def a4 (x:BitVec 64):BitVec 64:=x+x>>>(8:Nat)
def a5 (x:BitVec 64):BitVec 64:=x+x>>>(16:Nat)
def a6 (x:BitVec 64):BitVec 64:=x+x>>>(32:Nat)
def sw (x:BitVec 64):BitVec 64:=a6 (a5 (a4 (a3 (a2 (a1 x)))))
theorem ones_at (h:1<=n)(x:BitVec 64):call gl tab n 164 [.int .u64 (x.toNat:Int)] []=some (.int .i64 (sw x&&&127#64).toInt,[],[]):=by
 obtain⟨d,rfl⟩:=wC h
 rw[zaf (fd:=z48) rfl]
 have h127:BitVec.ofInt 64 127=127#64:=rfl
 simp(disch:=apply zq;omega) only[go_sem,simprocAttr,↓Nat.reduceEqDiff,xx,z48,m164,qb6,h127,sw,a6,a5,a4,a3,a2,a1]
theorem mk85 :mk 85 8=6148914691236517205:=by decide
theorem mk51 :mk 51 8=3689348814741910323:=by decide
theorem mk15 :mk 15 8=1085102592571150095:=by decide
theorem qgi (x:BitVec 64):(a1 x).toNat=X1 8 x.toNat/\X1 8 x.toNat<=12297829382473034410:=by
 have h1:=wE (n:=x.toNat/2) (m:=6148914691236517205)
 have h2:=wE (n:=x.toNat) (m:=6148914691236517205)
 unfold a1 X1
 rw[mk85,wR,wP,wP,wQ,wB]
 simp only[wO,Nat.reducePow,Nat.reduceMod]
 omega
theorem qgh (x:BitVec 64):(a2 x).toNat=X2 8 x.toNat/\X2 8 x.toNat<=7378697629483820646:=by
 have h1:=wE (n:=x.toNat/4) (m:=3689348814741910323)
 have h2:=wE (n:=x.toNat) (m:=3689348814741910323)
 unfold a2 X2
 rw[mk51,wR,wP,wP,wQ,wB]
 simp only[wO,Nat.reducePow,Nat.reduceMod]
 omega
theorem qgg (x:BitVec 64)(h:x.toNat<=7378697629483820646):(a3 x).toNat=X3 8 x.toNat:=by
 unfold a3 X3
 rw[mk15,wP,wR,wQ,wB]
 simp only[wO,Nat.reducePow,Nat.reduceMod]
 rw[wD (by omega)]
theorem Z_nat (x:BitVec 64):(a3 (a2 (a1 x))).toNat=Z 8 x.toNat:=by
 have h1:=qgi x
 have h2:=qgh (a1 x)
 rw[qgg _ (by rw[h2.1];exact h2.2),h2.1,h1.1];rfl
theorem dv (c x r:Nat)(hc:0<c)(h:r<c):(c*x+r)/c=x:=by
 rw[Nat.mul_add_div hc,Nat.div_eq_of_lt h,wM]
theorem zod {z:BitVec 64}{k:Nat}{c x r:Nat}(hk:c=2^k)(hz:z.toNat=c*x+r)(hr:r<c)(hb:c*x+r+x<18446744073709551616):(z+z>>>k).toNat=c*x+r+x:=by
 rw[wR,wQ,wB,<-hk,hz,dv c x r (by rw[hk];exact Nat.pow_pos (by omega)) hr]
 exact wD hb
theorem lin4 {p0 p1 p2 p3 p4 p5 p6 p7:Nat}:256*(256*(256*(256*(256*(256*(256*p7+p6)+p5)+p4)+p3)+p2)+p1)+p0+(256*(256*(256*(256*(256*(256*p7+p6)+p5)+p4)+p3)+p2)+p1) =
  65536*(256*(256*(256*(256*(256*p7+(p6+p7))+(p5+p6))+(p4+p5))+(p3+p4))+(p2+p3))+(256*(p1+p2)+(p0+p1)):=by omega
theorem lin5 {q0 q1 q2 q3 q4 q5 q6 q7:Nat}:65536*(256*(256*(256*(256*(256*q7+q6)+q5)+q4)+q3)+q2)+(256*q1+q0)+(256*(256*(256*(256*(256*q7+q6)+q5)+q4)+q3)+q2) =
  4294967296*(256*(256*(256*q7+q6)+(q5+q7))+(q4+q6))+(256*(256*(256*(q3+q5)+(q2+q4))+(q1+q3))+(q0+q2)):=by omega
theorem lin6 {r0 r1 r2 r3 r4 r5 r6 r7:Nat}:4294967296*(256*(256*(256*r7+r6)+r5)+r4)+(256*(256*(256*r3+r2)+r1)+r0)+(256*(256*(256*r7+r6)+r5)+r4) =
  128*(33554432*(256*(256*(256*r7+r6)+r5)+r4)+2*(256*(256*r3+r2)+r1)+2*(256*(256*r7+r6)+r5))+(r0+r4):=by omega
theorem qgf {z:BitVec 64}{p0 p1 p2 p3 p4 p5 p6 p7:Nat}(h:z.toNat=256*(256*(256*(256*(256*(256*(256*p7+p6)+p5)+p4)+p3)+p2)+p1)+p0)
  (h0:p0<=8) (h1:p1<=8) (h2:p2<=8) (h3:p3<=8) (h4:p4<=8) (h5:p5<=8) (h6:p6<=8) (h7:p7<=8) :
  (a4 z).toNat=65536*(256*(256*(256*(256*(256*p7+(p6+p7))+(p5+p6))+(p4+p5))+(p3+p4))+(p2+p3))+(256*(p1+p2)+(p0+p1)):=by
 rw[<-lin4]
 exact zod (k:=8) (c:=256) rfl h (by omega) (by omega)
theorem qge {z:BitVec 64}{q0 q1 q2 q3 q4 q5 q6 q7:Nat}(h:z.toNat=65536*(256*(256*(256*(256*(256*q7+q6)+q5)+q4)+q3)+q2)+(256*q1+q0))
  (h0:q0<=16) (h1:q1<=16) (h2:q2<=16) (h3:q3<=16) (h4:q4<=16) (h5:q5<=16) (h6:q6<=16) (h7:q7<=16) :
  (a5 z).toNat=4294967296*(256*(256*(256*q7+q6)+(q5+q7))+(q4+q6))+(256*(256*(256*(q3+q5)+(q2+q4))+(q1+q3))+(q0+q2)):=by
 rw[<-lin5]
 exact zod (k:=16) (c:=65536) rfl h (by omega) (by omega)
theorem qgd {z:BitVec 64}{r0 r1 r2 r3 r4 r5 r6 r7:Nat}(h:z.toNat=4294967296*(256*(256*(256*r7+r6)+r5)+r4)+(256*(256*(256*r3+r2)+r1)+r0))
  (h0:r0<=32) (h1:r1<=32) (h2:r2<=32) (h3:r3<=32) (h4:r4<=32) (h5:r5<=32) (h6:r6<=32) (h7:r7<=32):(a6 z&&&127#64).toNat=r0+r4:=by
 have e:=zod (k:=32) (c:=4294967296) rfl h (by omega) (by omega)
 rw[lin6]at e
 have e2:(127#64).toNat=2^7-1:=rfl
 rw[wP,e2,Nat.and_two_pow_sub_one_eq_mod,a6,e]
 generalize 33554432*(256*(256*(256*r7+r6)+r5)+r4)+2*(256*(256*r3+r2)+r1)+2*(256*(256*r7+r6)+r5)=K
 omega
theorem tail_nat {z:BitVec 64}{p0 p1 p2 p3 p4 p5 p6 p7:Nat}(h0:p0<=8)(h1:p1<=8)(h2:p2<=8)(h3:p3<=8)(h4:p4<=8)(h5:p5<=8)(h6:p6<=8)(h7:p7<=8)
  (h:z.toNat=256*(256*(256*(256*(256*(256*(256*p7+p6)+p5)+p4)+p3)+p2)+p1)+p0) :
  (a6 (a5 (a4 z))&&&127#64).toNat=p0+p1+(p2+p3)+(p4+p5+(p6+p7)):=by
 have b0:p0+p1<=16:=wA h0 h1
 have b1:p1+p2<=16:=wA h1 h2
 have b2:p2+p3<=16:=wA h2 h3
 have b3:p3+p4<=16:=wA h3 h4
 have b4:p4+p5<=16:=wA h4 h5
 have b5:p5+p6<=16:=wA h5 h6
 have b6:p6+p7<=16:=wA h6 h7
 have e4:=qgf h h0 h1 h2 h3 h4 h5 h6 h7
 have e5:=qge (z:=a4 z) (q0:=p0+p1) (q1:=p1+p2) (q2:=p2+p3) (q3:=p3+p4) (q4:=p4+p5) (q5:=p5+p6) (q6:=p6+p7) (q7:=p7) e4 b0 b1 b2 b3 b4 b5 b6 (wG h7 (by decide))
 exact qgd (z:=a5 (a4 z)) (r0:=p0+p1+(p2+p3)) (r1:=p1+p2+(p3+p4)) (r2:=p2+p3+(p4+p5)) (r3:=p3+p4+(p5+p6)) (r4:=p4+p5+(p6+p7)) (r5:=p5+p6+p7) (r6:=p6+p7) (r7:=p7) e5
  (wA b0 b2) (wA b1 b3) (wA b2 b4) (wA b3 b5) (wA b4 b6) (wG (wA b5 h7) (by decide)) (wG b6 (by decide)) (wG h7 (by decide))
end Go.Proofs.S44.M.B
namespace Go.Proofs.S44.M
open Go Go.Ev Go.Proofs Go.Mk
open Go.Proofs.S44.H (GlK GlR)
variable {gl :Gl} {n:Nat}
theorem zqs :∀(k a b:Nat),b<2^k->pcn (2^k*a+b)=pcn a+pcn b
 | 0,a,b,h=>by
   obtain rfl:b=0:=by simpa using h
   rw[pcn_0];simp
 | k+1,a,b,h=>by
   have e:2^(k+1)=2*2^k:=by rw[wF];omega
   have ih:=zqs k a (b/2) (by omega)
   rw[pcn_two (2^(k+1)*a+b),pcn_two b,e,wK,show(2*(2^k*a)+b)%2=b%2 by omega,show(2*(2^k*a)+b)/2=2^k*a+b/2 by omega,ih]
   omega
theorem zsi (a:Nat){b:Nat}(h:b<256):pcn (256*a+b)=pcn a+pcn b:=zqs 8 a b h
theorem z30 :∀b:Fin 256,B.pcb b.val=b.val%2+(b.val/2%2+(b.val/2/2%2+(b.val/2/2/2%2+(b.val/2/2/2/2%2+(b.val/2/2/2/2/2%2+(b.val/2/2/2/2/2/2%2+b.val/2/2/2/2/2/2/2%2)))))):=by decide +kernel
theorem zgk {b:Nat}(h:b<256):B.pcb b=pcn b:=by
 have:=z30 ⟨b,h⟩
 simp only at this
 rw[this,pcn_two b,pcn_two (b/2),pcn_two (b/2/2),pcn_two (b/2/2/2),pcn_two (b/2/2/2/2),pcn_two (b/2/2/2/2/2),pcn_two (b/2/2/2/2/2/2),pcn_two (b/2/2/2/2/2/2/2),show b/2/2/2/2/2/2/2/2=0 by omega,pcn_0,wM]
theorem qcx (x:BitVec 64):(B.sw x&&&127#64).toInt=(pcn x.toNat:Int):=by
 have hlt:=x.isLt
 obtain⟨b0,b1,b2,b3,b4,b5,b6,b7,l0,l1,l2,l3,l4,l5,l6,l7,he,hz⟩:=B.Z_8 (x:=x.toNat) (by omega)
 have hn:=B.Z_nat x
 rw[hz]at hn
 have q0:=B.pcb_le _ l0;have q1:=B.pcb_le _ l1;have q2:=B.pcb_le _ l2;have q3:=B.pcb_le _ l3
 have q4:=B.pcb_le _ l4;have q5:=B.pcb_le _ l5;have q6:=B.pcb_le _ l6;have q7:=B.pcb_le _ l7
 have ht:=B.tail_nat q0 q1 q2 q3 q4 q5 q6 q7 hn
 have h':(B.sw x&&&127#64).toNat=B.pcb b0+B.pcb b1+(B.pcb b2+B.pcb b3)+(B.pcb b4+B.pcb b5+(B.pcb b6+B.pcb b7)):=ht
 have hp:pcn x.toNat=B.pcb b0+B.pcb b1+(B.pcb b2+B.pcb b3)+(B.pcb b4+B.pcb b5+(B.pcb b6+B.pcb b7)):=by
  rw[he,zsi _ l0,zsi _ l1,zsi _ l2,zsi _ l3,zsi _ l4,zsi _ l5,zsi _ l6,zgk l0,zgk l1,zgk l2,zgk l3,zgk l4,zgk l5,zgk l6,zgk l7]
  omega
 have hs:B.pcb b0+B.pcb b1+(B.pcb b2+B.pcb b3)+(B.pcb b4+B.pcb b5+(B.pcb b6+B.pcb b7))<=64:=by
  clear hn ht h' hp hz he
  omega
 rw[<-hp]at h' hs
 rw[BitVec.toInt_eq_toNat_of_lt (by rw[h'];omega),h']
theorem z34 (h:2<=n){x:Nat}(hx:x<=1099511627776):call gl tab n 144 [.int .u64 (x:Int)] []=some (i64 (pcn x),[],[]):=by
 obtain⟨d,rfl⟩:=wC h
 have e:(BitVec.ofNat 64 x).toNat=x:=by rw[wO,wD (by omega)]
 have c:=@B.ones_at gl (d+1) (by omega) (BitVec.ofNat 64 x)
 rw[qcx,e]at c
 generalize pcn x=y at *
 rw[zaf (fd:=z5g) rfl]
 simp(disch:=apply zq;omega) only[go_sem,simprocAttr,↓Nat.reduceEqDiff,xx,z5g,m144,c]
end Go.Proofs.S44.M
namespace Go.Proofs.S44.M
open Go Go.Ev Go.Proofs Go.Mk
open Go.Proofs.S44.H (GlK GlR)
variable {gl :Gl} {n:Nat}
def dbl :List UInt8:=[0,1,56,2,57,49,28,3,61,58,42,50,38,29,17,4,62,47,59,36,45,43,51,22,53,39,33,30,24,18,12,5,63,55,48,27,60,41,37,16,46,35,44,21,52,32,23,11,54,26,40,15,34,20,31,10,25,14,19,9,13,8,7,6]
structure GlB (gl:Gl):Prop where
 b:gl.tbl 1=some (.ar 64 .sc,.agg (zac dbl))
theorem glB {gl:Gl}[h:Nonempty (GlB gl)]:gl.tbl 1=some (.ar 64 .sc,.agg (zac dbl)):=h.elim fun h=>h.b
theorem zn7 :∀(c s:Nat),s<=c->∃q,s=2^(tr1 s+1)*q+(2^tr1 s-1)
 | c,s,h=>by
   by_cases h1:s%2=1
   . match c,h with
     | 0,h=>omega
     | c+1,h =>
       obtain⟨q,hq⟩:=zn7 c (s/2) (by omega)
       refine⟨q,?_⟩
       rw[zyd h1]
       have hp:=wJ (tr1 (s/2))
       have e1:2^(tr1 (s/2)+1+1)*q=2*(2^(tr1 (s/2)+1)*q):=by rw[wF _ (tr1 (s/2)+1),Nat.mul_comm _ 2,wK]
       have e2:2^(tr1 (s/2)+1)=2*2^tr1 (s/2):=by rw[wF];omega
       rw[e1]
       generalize 2^(tr1 (s/2)+1)*q=u at *
       omega
   . refine⟨s/2,?_⟩
     rw[zp7 (by omega)]
     simp only[wL,Nat.pow_one,Nat.pow_zero]
     omega
theorem z97 {s t q:Nat}(hs:s=2^(t+1)*q+(2^t-1))(hlt:s<2^63)(ht:t<64) :
  (~~~ (BitVec.ofNat 64 s))&&&(BitVec.ofNat 64 (s+1))=BitVec.ofNat 64 (2^t):=by
 have hp:=wJ t
 have e2:2^(t+1)=2*2^t:=by rw[wF];omega
 have hs1:s+1=2^(t+1)*q+2^t:=by omega
 refine BitVec.eq_of_getLsbD_eq fun i hi=> ?_
 simp only[BitVec.getLsbD_and,BitVec.getLsbD_not,BitVec.getLsbD_ofNat,hi,decide_true,Bool.true_and]
 rw[hs1,wI _ (show 2^t<2^(t+1) by omega),hs,wI _ (show 2^t-1<2^(t+1) by omega),Nat.testBit_two_pow_sub_one,Nat.testBit_two_pow]
 by_cases h1:i<t+1
 . rw[if_pos h1,if_pos h1]
   by_cases h2:i=t
   . subst h2;simp
   . have h3:i<t:=by omega
     have h4:¬t=i:=by omega
     simp[h3,h4]
 . rw[if_neg h1,if_neg h1]
   have h4:¬t=i:=by omega
   simp[h4]
theorem db_k :∀t:Fin 64,dbl[((BitVec.ofNat 64 (2^t.val)*285870213051353865#64)>>>(58:Nat)).toNat]? =some (UInt8.ofNat t.val)/\((BitVec.ofNat 64 (2^t.val)*285870213051353865#64)>>>(58:Nat)).toNat<64:=by decide +kernel
theorem u8_t :∀t:Fin 64,(UInt8.ofNat t.val).toNat=t.val:=by decide +kernel
theorem qka {t:Nat}(h:t<64):∃k,((BitVec.ofNat 64 (2^t)*285870213051353865#64)>>>(58:Nat)).toNat=k/\k<64/\(zac dbl)[k]? =some (.int .u8 (t:Int)):=by
 obtain⟨h1,h2⟩:=db_k ⟨t,h⟩
 have h3:=u8_t ⟨t,h⟩
 simp only at h1 h2 h3
 refine⟨_,rfl,h2,?_⟩
 rw[zac,List.getElem?_map,h1,Option.map_some,h3]
theorem z9s {s:Nat}(hs:s<=1099511627776):BitVec.ofInt 64 (0-((~~~ (BitVec.ofNat 64 s)).toNat:Int))=BitVec.ofNat 64 (s+1):=by
 have hx:(~~~ (BitVec.ofNat 64 s)).toNat=18446744073709551615-s:=by
  rw[wS,wO,wD (by omega)]
 apply BitVec.eq_of_toNat_eq
 rw[BitVec.toNat_ofInt,wO,hx]
 omega
theorem qck {s:Nat}(hs:s<=1099511627776):tr1 s<64:=by
 obtain⟨q,hq⟩:=zn7 s s (wN _)
 have h1:2^tr1 s<=s+1:=by
  generalize 2^(tr1 s+1)*q=u at *
  omega
 have h2:2^tr1 s<2^64:=by omega
 exact(Nat.pow_lt_pow_iff_right (by omega)).1 h2
section
variable [Nonempty (GlB gl)]
theorem zvw (h:1<=n){s:Nat}(hs:s<=1099511627776):call gl tab n 146 [.int .u64 ((~~~ (BitVec.ofNat 64 s)).toNat:Int)] []=some (i64 (tr1 s),[],[]):=by
 obtain⟨d,rfl⟩:=wC h
 obtain⟨q,hq⟩:=zn7 s s (wN _)
 have ht:=qck hs
 have hx:(~~~ (BitVec.ofNat 64 s)).toNat=18446744073709551615-s:=by
  rw[wS,wO,wD (by omega)]
 have h0:(((~~~ (BitVec.ofNat 64 s)).toNat:Int)==0)=false:=by rw[beq_eq_false_iff_ne,hx];omega
 have h1:=z9s hs
 have h2:=z97 hq (by omega) ht
 obtain⟨k,h3,h4,h5⟩:=qka ht
 clear hx hq
 generalize tr1 s=t at *
 generalize ~~~ (BitVec.ofNat 64 s)=x at *
 generalize BitVec.ofNat 64 (s+1)=y at *
 generalize BitVec.ofNat 64 (2^t)=z at *
 have hb:=zab dbl
 rw[zaf (fd:=z5f) rfl]
 simp(disch:=apply zq;omega) only[go_sem,simprocAttr,↓Nat.reduceEqDiff,xx,z5f,m146,glB,h0,h1,h2,h3,h5]
end
end Go.Proofs.S44.M
namespace Go.Proofs.S44.M
open Go Go.Ev Go.Proofs Go.Mk
open Go.Proofs.S44.H (GlK GlR)
variable {gl :Gl} {n:Nat}
theorem z2y [Nonempty (GlB gl)](h:2<=n){s:Nat}(hs:s<=1099511627776):call gl tab n 103 [.int .u64 ((~~~ (BitVec.ofNat 64 s)).toNat:Int)] []=some (i64 (tr1 s),[],[]):=by
 obtain⟨d,rfl⟩:=wC h
 have c:=@zvw gl (d+1) _ (by omega) s hs
 generalize ~~~ (BitVec.ofNat 64 s)=x at *
 generalize tr1 s=t at *
 rw[zaf (fd:=z5z) rfl]
 simp(disch:=apply zq;omega) only[go_sem,simprocAttr,↓Nat.reduceEqDiff,xx,z5z,m103,c]
abbrev pkAV (z:Int)(f:Bool)(sh:Sh)(t:List Dg):AV:=.agg [i64 z,.lst f sh (dgL t)]
def Form (z:Int)(t:List Dg):Prop:=0<=z/\z<=1099511627776/\t.length=pcn z.toNat
instance (z :Int) (t:List Dg):Decidable (Form z t):=by unfold Form;infer_instance
theorem z09 (h:3<=n){z:Int}{f:Bool}{sh:Sh}{t:List Dg}(hl:t.length<=1000000)(hz:-9223372036854775808<=z/\z<=9223372036854775807):call gl tab n 102 [pkAV z f sh t] []=some (.bool (decide (Form z t)),[],[]):=by
 obtain⟨d,rfl⟩:=wC h
 have hL:=dgL_length t
 rw[zaf (fd:=zs4) rfl]
 by_cases h1:0<=z
 . by_cases h2:z<=1099511627776
   . obtain⟨s,rfl⟩:∃s:Nat,z=s:=⟨z.toNat,by omega⟩
     have c:=@z34 gl (d+2) (by omega) s (by omega)
     have e:(BitVec.ofNat 64 s).toNat=s:=by rw[wO,wD (by omega)]
     have hF:decide (Form s t)=decide (t.length=pcn s):=decide_eq_decide.2 ⟨fun h=>by have:=h.2.2;simpa using this,fun h=>⟨h1,h2,by simpa using h⟩⟩
     rw[hF]
     generalize pcn s=y at *
     by_cases h3:t.length=y
     . subst h3
       simp(disch:=apply zq;omega) only[go_sem,simprocAttr,↓Nat.reduceEqDiff,xx,zs4,m102,hL,c,e]
     . have h3':¬(t.length:Int)=(y:Int):=by omega
       simp(disch:=apply zq;omega) only[go_sem,simprocAttr,↓Nat.reduceEqDiff,xx,zs4,m102,hL,c,e,h3]
   . rw[decide_eq_false (fun h=>h2 h.2.1)]
     simp(disch:=apply zq;omega) only[go_sem,simprocAttr,↓Nat.reduceEqDiff,xx,zs4,m102,hL]
 . rw[decide_eq_false (fun h=>h1 h.1)]
   simp(disch:=apply zq;omega) only[go_sem,simprocAttr,↓Nat.reduceEqDiff,xx,zs4,m102,hL]
end Go.Proofs.S44.M
