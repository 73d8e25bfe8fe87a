/-
  Chapter 8: powers of two. No condition.
-/
import Derived.Test.YthipjfnealbheaaGreatDoorW97G10x4
set_option linter.all false
open Nat renaming add_le_add->wB,shiftRight_eq_div_pow->wC,and_le_right->wD,exists_eq_add_of_le'->wE,mod_eq_of_lt->wF,le_trans->wG,mul_le_mul_right->wH,mod_lt->wJ
open BitVec renaming toNat_and->wK,toNat_ushiftRight->wL,toNat_ofNat->wM,toNat_add->wN,ofInt_natCast->wO
namespace Go.Proofs.S97.K
open Go Go.Ev Go.Proofs
variable {gl :Gl} {n:Nat}
def a1 (x:BitVec 64):BitVec 64:=(x>>>(1:Nat)&&&6148914691236517205#64)+(x&&&6148914691236517205#64)
def a2 (x:BitVec 64):BitVec 64:=(x>>>(2:Nat)&&&3689348814741910323#64)+(x&&&3689348814741910323#64)
def a3 (x:BitVec 64):BitVec 64:=(x>>>(4:Nat)+x)&&&1085102592571150095#64
def a4 (x:BitVec 64):BitVec 64:=x+x>>>(8:Nat)
def a5 (x:BitVec 64):BitVec 64:=x+x>>>(16:Nat)
def a6 (x:BitVec 64):BitVec 64:=x+x>>>(32:Nat)
def sw (x:BitVec 64):BitVec 64:=a6 (a5 (a4 (a3 (a2 (a1 x)))))
theorem qbz (h:1<=n)(x:BitVec 64):call gl tab n 110 [.int .u64 (x.toNat:Int)] []=some (.int .i64 (sw x&&&127#64).toInt,[],[]):=by
 obtain⟨d,rfl⟩:=wE h
 rw[zaf (fd:=z7n) rfl]
 have h127:BitVec.ofInt 64 127=127#64:=rfl
 simp(disch:=apply zq;omega) only[go_sem,simprocAttr,↓Nat.reduceEqDiff,xx,z7n,m110,qek,h127,sw,a6,a5,a4,a3,a2,a1]
end Go.Proofs.S97.K
namespace Go.Proofs.S97.K
open Go Go.Ev Go.Proofs
theorem mk85 :mk 85 8=6148914691236517205:=by decide
theorem mk51 :mk 51 8=3689348814741910323:=by decide
theorem mk15 :mk 15 8=1085102592571150095:=by decide
theorem qi6 (x:BitVec 64):(a1 x).toNat=X1 8 x.toNat/\X1 8 x.toNat<=12297829382473034410:=by
 have h1:=wD (n:=x.toNat/2) (m:=6148914691236517205)
 have h2:=wD (n:=x.toNat) (m:=6148914691236517205)
 unfold a1 X1
 rw[mk85,wN,wK,wK,wL,wC]
 simp only[wM,Nat.reducePow,Nat.reduceMod]
 omega
theorem qi5 (x:BitVec 64):(a2 x).toNat=X2 8 x.toNat/\X2 8 x.toNat<=7378697629483820646:=by
 have h1:=wD (n:=x.toNat/4) (m:=3689348814741910323)
 have h2:=wD (n:=x.toNat) (m:=3689348814741910323)
 unfold a2 X2
 rw[mk51,wN,wK,wK,wL,wC]
 simp only[wM,Nat.reducePow,Nat.reduceMod]
 omega
theorem qi4 (x:BitVec 64)(h:x.toNat<=7378697629483820646):(a3 x).toNat=X3 8 x.toNat:=by
 unfold a3 X3
 rw[mk15,wK,wN,wL,wC]
 simp only[wM,Nat.reducePow,Nat.reduceMod]
 rw[wF (by omega)]
theorem qll (x:BitVec 64):(a3 (a2 (a1 x))).toNat=Z 8 x.toNat:=by
 have h1:=qi6 x
 have h2:=qi5 (a1 x)
 rw[qi4 _ (by rw[h2.1];exact h2.2),h2.1,h1.1];rfl
end Go.Proofs.S97.K
namespace Go.Proofs.S97.K
open Go Go.Ev Go.Proofs
theorem dv (c x r:Nat)(hc:0<c)(h:r<c):(c*x+r)/c=x:=by
 rw[Nat.mul_add_div hc,Nat.div_eq_of_lt h,Nat.add_zero]
theorem zop {z:BitVec 64}{k:Nat}{c x r:Nat}(hk:c=2^k)(hz:z.toNat=c*x+r)(hr:r<c)(hb:c*x+r+x<18446744073709551616):(z+z>>>k).toNat=c*x+r+x:=by
 rw[wN,wL,wC,<-hk,hz,dv c x r (by rw[hk];exact Nat.pow_pos (by omega)) hr]
 exact wF hb
theorem lin4 {p0 p1 p2 p3 p4 p5 p6 p7:Nat}:256*(256*(256*(256*(256*(256*(256*p7+p6)+p5)+p4)+p3)+p2)+p1)+p0+(256*(256*(256*(256*(256*(256*p7+p6)+p5)+p4)+p3)+p2)+p1) =
  65536*(256*(256*(256*(256*(256*p7+(p6+p7))+(p5+p6))+(p4+p5))+(p3+p4))+(p2+p3))+(256*(p1+p2)+(p0+p1)):=by omega
theorem lin5 {q0 q1 q2 q3 q4 q5 q6 q7:Nat}:65536*(256*(256*(256*(256*(256*q7+q6)+q5)+q4)+q3)+q2)+(256*q1+q0)+(256*(256*(256*(256*(256*q7+q6)+q5)+q4)+q3)+q2) =
  4294967296*(256*(256*(256*q7+q6)+(q5+q7))+(q4+q6))+(256*(256*(256*(q3+q5)+(q2+q4))+(q1+q3))+(q0+q2)):=by omega
theorem lin6 {r0 r1 r2 r3 r4 r5 r6 r7:Nat}:4294967296*(256*(256*(256*r7+r6)+r5)+r4)+(256*(256*(256*r3+r2)+r1)+r0)+(256*(256*(256*r7+r6)+r5)+r4) =
  128*(33554432*(256*(256*(256*r7+r6)+r5)+r4)+2*(256*(256*r3+r2)+r1)+2*(256*(256*r7+r6)+r5))+(r0+r4):=by omega
theorem qi3 {z:BitVec 64}{p0 p1 p2 p3 p4 p5 p6 p7:Nat}(h:z.toNat=256*(256*(256*(256*(256*(256*(256*p7+p6)+p5)+p4)+p3)+p2)+p1)+p0)
  (h0:p0<=8) (h1:p1<=8) (h2:p2<=8) (h3:p3<=8) (h4:p4<=8) (h5:p5<=8) (h6:p6<=8) (h7:p7<=8) :
  (a4 z).toNat=65536*(256*(256*(256*(256*(256*p7+(p6+p7))+(p5+p6))+(p4+p5))+(p3+p4))+(p2+p3))+(256*(p1+p2)+(p0+p1)):=by
 rw[<-lin4]
 exact zop (k:=8) (c:=256) rfl h (by omega) (by omega)
theorem qi2 {z:BitVec 64}{q0 q1 q2 q3 q4 q5 q6 q7:Nat}(h:z.toNat=65536*(256*(256*(256*(256*(256*q7+q6)+q5)+q4)+q3)+q2)+(256*q1+q0))
  (h0:q0<=16) (h1:q1<=16) (h2:q2<=16) (h3:q3<=16) (h4:q4<=16) (h5:q5<=16) (h6:q6<=16) (h7:q7<=16) :
  (a5 z).toNat=4294967296*(256*(256*(256*q7+q6)+(q5+q7))+(q4+q6))+(256*(256*(256*(q3+q5)+(q2+q4))+(q1+q3))+(q0+q2)):=by
 rw[<-lin5]
 exact zop (k:=16) (c:=65536) rfl h (by omega) (by omega)
theorem qi1 {z:BitVec 64}{r0 r1 r2 r3 r4 r5 r6 r7:Nat}(h:z.toNat=4294967296*(256*(256*(256*r7+r6)+r5)+r4)+(256*(256*(256*r3+r2)+r1)+r0))
  (h0:r0<=32) (h1:r1<=32) (h2:r2<=32) (h3:r3<=32) (h4:r4<=32) (h5:r5<=32) (h6:r6<=32) (h7:r7<=32):(a6 z&&&127#64).toNat=r0+r4:=by
 have e:=zop (k:=32) (c:=4294967296) rfl h (by omega) (by omega)
 rw[lin6]at e
 have e2:(127#64).toNat=2^7-1:=rfl
 rw[wK,e2,Nat.and_two_pow_sub_one_eq_mod,a6,e]
 generalize 33554432*(256*(256*(256*r7+r6)+r5)+r4)+2*(256*(256*r3+r2)+r1)+2*(256*(256*r7+r6)+r5)=K
 omega
theorem z4u {z:BitVec 64}{p0 p1 p2 p3 p4 p5 p6 p7:Nat}(h0:p0<=8)(h1:p1<=8)(h2:p2<=8)(h3:p3<=8)(h4:p4<=8)(h5:p5<=8)(h6:p6<=8)(h7:p7<=8)
  (h:z.toNat=256*(256*(256*(256*(256*(256*(256*p7+p6)+p5)+p4)+p3)+p2)+p1)+p0) :
  (a6 (a5 (a4 z))&&&127#64).toNat=p0+p1+(p2+p3)+(p4+p5+(p6+p7)):=by
 have b0:p0+p1<=16:=wB h0 h1
 have b1:p1+p2<=16:=wB h1 h2
 have b2:p2+p3<=16:=wB h2 h3
 have b3:p3+p4<=16:=wB h3 h4
 have b4:p4+p5<=16:=wB h4 h5
 have b5:p5+p6<=16:=wB h5 h6
 have b6:p6+p7<=16:=wB h6 h7
 have e4:=qi3 h h0 h1 h2 h3 h4 h5 h6 h7
 have e5:=qi2 (z:=a4 z) (q0:=p0+p1) (q1:=p1+p2) (q2:=p2+p3) (q3:=p3+p4) (q4:=p4+p5) (q5:=p5+p6) (q6:=p6+p7) (q7:=p7) e4 b0 b1 b2 b3 b4 b5 b6 (wG h7 (by decide))
 exact qi1 (z:=a5 (a4 z)) (r0:=p0+p1+(p2+p3)) (r1:=p1+p2+(p3+p4)) (r2:=p2+p3+(p4+p5)) (r3:=p3+p4+(p5+p6)) (r4:=p4+p5+(p6+p7)) (r5:=p5+p6+p7) (r6:=p6+p7) (r7:=p7) e5
  (wB b0 b2) (wB b1 b3) (wB b2 b4) (wB b3 b5) (wB b4 b6) (wG (wB b5 h7) (by decide)) (wG b6 (by decide)) (wG h7 (by decide))
end Go.Proofs.S97.K
namespace Go.Proofs.S97.K
open Go Go.Ev Go.Proofs
theorem pc0 :∀b:Fin 256,pcb b.val=0->b.val=0:=by decide +kernel
theorem pc1 :∀b:Fin 256,pcb b.val=1->∃i:Fin 8,b.val=2^i.val:=by decide +kernel
theorem sw2 :∀k:Fin 63,(sw (BitVec.ofNat 64 (2^k.val))&&&127#64).toNat=1:=by decide +kernel
theorem pc_0 {b:Nat}(h:b<256)(h0:pcb b=0):b=0:=pc0 ⟨b,h⟩ h0
theorem pc_1 {b:Nat}(h:b<256)(h0:pcb b=1):∃i,i<8/\b=2^i:=by
 obtain⟨i,hi⟩:=pc1 ⟨b,h⟩ h0
 exact⟨i.val,i.isLt,hi⟩
theorem zkc {w j i:Nat}(h:w=2^(8*j)*2^i)(hw:w<2^63):isP (w:Int):=by
 rw[<-Nat.pow_add]at h
 have hk:8*j+i<63:=by
  rw[h]at hw
  exact(Nat.pow_lt_pow_iff_right (by decide)).1 hw
 exact⟨8*j+i,hk,by rw[zs9 hk,h]⟩
theorem one8 {p0 p1 p2 p3 p4 p5 p6 p7:Nat}(h:p0+p1+(p2+p3)+(p4+p5+(p6+p7))=1) :
  (p0=1/\p1=0/\p2=0/\p3=0/\p4=0/\p5=0/\p6=0/\p7=0)\/(p0=0/\p1=1/\p2=0/\p3=0/\p4=0/\p5=0/\p6=0/\p7=0) \/
  (p0=0/\p1=0/\p2=1/\p3=0/\p4=0/\p5=0/\p6=0/\p7=0)\/(p0=0/\p1=0/\p2=0/\p3=1/\p4=0/\p5=0/\p6=0/\p7=0) \/
  (p0=0/\p1=0/\p2=0/\p3=0/\p4=1/\p5=0/\p6=0/\p7=0)\/(p0=0/\p1=0/\p2=0/\p3=0/\p4=0/\p5=1/\p6=0/\p7=0) \/
  (p0=0/\p1=0/\p2=0/\p3=0/\p4=0/\p5=0/\p6=1/\p7=0)\/(p0=0/\p1=0/\p2=0/\p3=0/\p4=0/\p5=0/\p6=0/\p7=1):=by omega
theorem qe9 {w:Nat}(hw:w<2^63):(sw (BitVec.ofNat 64 w)&&&127#64).toNat=1↔isP (w:Int):=by
 have hx:(BitVec.ofNat 64 w).toNat=w:=by rw[wM,wF (by omega)]
 constructor
 . intro h
   obtain⟨b0,b1,b2,b3,b4,b5,b6,b7,l0,l1,l2,l3,l4,l5,l6,l7,he,hz⟩:=Z_8 (x:=w) (by omega)
   have hn:=qll (BitVec.ofNat 64 w)
   rw[hx,hz]at hn
   have ht:=z4u (zj9 _ l0) (zj9 _ l1) (zj9 _ l2) (zj9 _ l3) (zj9 _ l4) (zj9 _ l5) (zj9 _ l6) (zj9 _ l7) hn
   have h':(a6 (a5 (a4 (a3 (a2 (a1 (BitVec.ofNat 64 w))))))&&&127#64).toNat=1:=h
   rw[ht]at h'
   clear hn ht hz h hx
   rcases one8 h' with ⟨e0,e1,e2,e3,e4,e5,e6,e7⟩|⟨e0,e1,e2,e3,e4,e5,e6,e7⟩|⟨e0,e1,e2,e3,e4,e5,e6,e7⟩|⟨e0,e1,e2,e3,e4,e5,e6,e7⟩|⟨e0,e1,e2,e3,e4,e5,e6,e7⟩|⟨e0,e1,e2,e3,e4,e5,e6,e7⟩|⟨e0,e1,e2,e3,e4,e5,e6,e7⟩|⟨e0,e1,e2,e3,e4,e5,e6,e7⟩
   . obtain⟨i,hi,e0⟩:=pc_1 l0 e0
     have e1:=pc_0 l1 e1;have e2:=pc_0 l2 e2;have e3:=pc_0 l3 e3;have e4:=pc_0 l4 e4;have e5:=pc_0 l5 e5;have e6:=pc_0 l6 e6;have e7:=pc_0 l7 e7
     exact zkc (j:=0) (i:=i) (by rw[he,<-e0,e1,e2,e3,e4,e5,e6,e7];simp) hw
   . obtain⟨i,hi,e1⟩:=pc_1 l1 e1
     have e0:=pc_0 l0 e0;have e2:=pc_0 l2 e2;have e3:=pc_0 l3 e3;have e4:=pc_0 l4 e4;have e5:=pc_0 l5 e5;have e6:=pc_0 l6 e6;have e7:=pc_0 l7 e7
     exact zkc (j:=1) (i:=i) (by rw[he,<-e1,e0,e2,e3,e4,e5,e6,e7];simp) hw
   . obtain⟨i,hi,e2⟩:=pc_1 l2 e2
     have e0:=pc_0 l0 e0;have e1:=pc_0 l1 e1;have e3:=pc_0 l3 e3;have e4:=pc_0 l4 e4;have e5:=pc_0 l5 e5;have e6:=pc_0 l6 e6;have e7:=pc_0 l7 e7
     exact zkc (j:=2) (i:=i) (by rw[he,<-e2,e0,e1,e3,e4,e5,e6,e7];simp;omega) hw
   . obtain⟨i,hi,e3⟩:=pc_1 l3 e3
     have e0:=pc_0 l0 e0;have e1:=pc_0 l1 e1;have e2:=pc_0 l2 e2;have e4:=pc_0 l4 e4;have e5:=pc_0 l5 e5;have e6:=pc_0 l6 e6;have e7:=pc_0 l7 e7
     exact zkc (j:=3) (i:=i) (by rw[he,<-e3,e0,e1,e2,e4,e5,e6,e7];simp;omega) hw
   . obtain⟨i,hi,e4⟩:=pc_1 l4 e4
     have e0:=pc_0 l0 e0;have e1:=pc_0 l1 e1;have e2:=pc_0 l2 e2;have e3:=pc_0 l3 e3;have e5:=pc_0 l5 e5;have e6:=pc_0 l6 e6;have e7:=pc_0 l7 e7
     exact zkc (j:=4) (i:=i) (by rw[he,<-e4,e0,e1,e2,e3,e5,e6,e7];simp;omega) hw
   . obtain⟨i,hi,e5⟩:=pc_1 l5 e5
     have e0:=pc_0 l0 e0;have e1:=pc_0 l1 e1;have e2:=pc_0 l2 e2;have e3:=pc_0 l3 e3;have e4:=pc_0 l4 e4;have e6:=pc_0 l6 e6;have e7:=pc_0 l7 e7
     exact zkc (j:=5) (i:=i) (by rw[he,<-e5,e0,e1,e2,e3,e4,e6,e7];simp;omega) hw
   . obtain⟨i,hi,e6⟩:=pc_1 l6 e6
     have e0:=pc_0 l0 e0;have e1:=pc_0 l1 e1;have e2:=pc_0 l2 e2;have e3:=pc_0 l3 e3;have e4:=pc_0 l4 e4;have e5:=pc_0 l5 e5;have e7:=pc_0 l7 e7
     exact zkc (j:=6) (i:=i) (by rw[he,<-e6,e0,e1,e2,e3,e4,e5,e7];simp;omega) hw
   . obtain⟨i,hi,e7⟩:=pc_1 l7 e7
     have e0:=pc_0 l0 e0;have e1:=pc_0 l1 e1;have e2:=pc_0 l2 e2;have e3:=pc_0 l3 e3;have e4:=pc_0 l4 e4;have e5:=pc_0 l5 e5;have e6:=pc_0 l6 e6
     exact zkc (j:=7) (i:=i) (by rw[he,<-e7,e0,e1,e2,e3,e4,e5,e6];simp;omega) hw
 . rintro ⟨k,hk,e⟩
   rw[zs9 hk]at e
   have e2:w=2^k:=by omega
   rw[e2]
   exact sw2 ⟨k,hk⟩
variable {gl :Gl} {n:Nat}
theorem z5v (h:4<=n){w:Int}(hw:w<=9223372036854775807):∃b:Bool,(b=true↔isP w)/\call gl tab n 74 [i64 w] []=some (.bool b,[],[]):=by
 obtain⟨d,rfl⟩:=wE h
 by_cases h0:0<w
 case neg =>
  refine⟨false,⟨(fun h=>by cases h),fun⟨i,hi,e⟩=>absurd (zxb hi).1 (by omega)⟩,?_⟩
  rw[zaf (fd:=fd74) rfl]
  simp(disch:=apply zq;omega) only[go_sem,simprocAttr,↓Nat.reduceEqDiff,xx,fd74,m74]
 obtain⟨w,rfl⟩:∃v:Nat,w=v:=⟨w.toNat,by omega⟩
 have hs:=qe9 (w:=w) (by omega)
 have c53:=@qbz gl (d+2) (by omega) (BitVec.ofNat 64 w)
 have hlt:(sw (BitVec.ofNat 64 w)&&&127#64).toNat<=127:=by rw[wK];exact wD
 generalize sw (BitVec.ofNat 64 w)&&&127#64=y at *
 have hi:y.toInt=(y.toNat:Int):=BitVec.toInt_eq_toNat_of_lt (by omega)
 rw[hi]at c53
 have hx:(BitVec.ofNat 64 w).toNat=w:=by rw[wM,wF (by omega)]
 rw[hx]at c53
 have c44:call gl tab (d+3) 95 [.int .u64 (w:Int)] []=some (.int .i64 (y.toNat:Int),[],[]):=by
  rw[zaf (fd:=fd95) rfl]
  simp(disch:=apply zq;omega) only[go_sem,simprocAttr,↓Nat.reduceEqDiff,xx,fd95,m95,c53]
 have hcv:IntKind.wrap .u64 (w:Int)=(w:Int):=by rw[zoj,wO,hx]
 have hcv2:((BitVec.ofInt 64 (w:Int)).toNat:Int)=(w:Int):=by rw[wO,hx]
 refine⟨(y.toNat:Int)==1,?_,?_⟩
 . rw[<-hs,beq_iff_eq];omega
 . rw[zaf (fd:=fd74) rfl]
   simp(disch:=apply zq;omega) only[go_sem,simprocAttr,↓Nat.reduceEqDiff,xx,fd74,m74,c44,hcv,hcv2,hx]
end Go.Proofs.S97.K
namespace Go.Proofs.S97.K
open Go Go.Ev Go.Proofs
section
variable {gl :Gl} {n:Nat} [Nonempty (H.GlK gl)]
def pl (key:List UInt8)(w r:Nat):Nat:=r*w+plc key r%w
theorem zlu {key:List UInt8}{w r:Nat}(hw:1<=w)(hr:r<4):pl key w r<4*w:=by
 have h1:=wJ (plc key r) (show 0<w by omega)
 have h2:r*w<=3*w:=wH w (by omega)
 unfold pl;omega
def P4 (p:Nat->Nat):List AV:=[i64 (p 0),i64 (p 1),i64 (p 2),i64 (p 3)]
def o4 (p:Nat->Nat)(i:Nat):List AV:=[i64 (if 0<i then(p 0:Nat)else 0),i64 (if 1<i then(p 1:Nat)else 0),i64 (if 2<i then(p 2:Nat)else 0),i64 (if 3<i then(p 3:Nat)else 0)]
theorem qgk (p:Nat->Nat)(i:Nat):(o4 p i).length=4:=rfl
theorem qgl (p:Nat->Nat)(i:Nat)(h:i<4):(o4 p i)[i]? =some (i64 0):=by
 match i,h with
 | 0,_=>rfl
 | 1,_=>rfl
 | 2,_=>rfl
 | 3,_=>rfl
theorem qgj (p:Nat->Nat)(i:Nat)(h:i<4):(o4 p i).set i (i64 (p i))=o4 p (i+1):=by
 match i,h with
 | 0,_=>rfl
 | 1,_=>rfl
 | 2,_=>rfl
 | 3,_=>rfl
theorem o4_4 (p:Nat->Nat):o4 p 4=P4 p:=rfl
theorem qkf (p:Nat->Nat)(i:Nat):(o4 p i).all AV.scalar=true:=rfl
def L31 :MC:=match m66 with| .seq _ (.seq (.seq _ (.block _ (.loop _ b))) _)=>b|_=>.skip
def S31 (w:Nat)(s a:Int)(f:Bool)(l:List Int)(key:List UInt8)(i:Nat):St :=
 ⟨[.set 6 (i64 i),.set 4 (.ptr 4 []),.set 2 (.ptr 2 []),.set 1 (.str key)],[(4,.fix (.ar 4 .sc) (.agg (o4 (pl key w) i))),(2,.fix sK (.agg [i64 w,i64 s,i64 a,.lst f .sc (ns l)]))]⟩
theorem of_at (h:9<=n){key:List UInt8}(hk:key.length<=5000){w:Nat}(hw:1<=w/\w<=4096){s a:Int}{f:Bool}{l:List Int}:call gl tab n 66 [.agg [i64 w,i64 s,i64 a,.lst f .sc (ns l)],.str key] []=some (.agg (P4 (pl key w)),[],[]):=by
 obtain⟨d,rfl⟩:=wE h
 have hs:∀i,i<4->zba [.slot 1,.slot 2,.slot 4,.slot 6,.key 2,.key 4] (evC gl (call gl tab (d+8)) L31 (S31 w s a f l key i))=some (S31 w s a f l key (i+1)):=fun i hi=>by
  have c:=@place_at gl (d+8) _ (by omega) key hk i w hi hw
  have hm:=wJ (plc key i) (show 0<w by omega)
  have hx:=qgl (pl key w) i hi
  have hy:=qgj (pl key w) i hi
  have hl:=qgk (pl key w) i
  have hsc:=qkf (pl key w) i
  have hlt:i*w<=3*w:=wH w (by omega)
  have e:pl key w i=i*w+plc key i%w:=rfl
  rw[e]at hy
  simp only[Int.natCast_add,Int.natCast_mul]at hy
  generalize plc key i%w=y at *
  generalize hz:i*w=z at *
  have hz2:(i:Int)*(w:Int)=(z:Int):=by rw[<-hz];exact(Int.natCast_mul i w).symm
  rw[hz2]at hy
  rw[S31,S31,<-hy]
  generalize o4 (pl key w) i=o at *
  simp(disch:=apply zq;omega) only[go_sem,simprocAttr,↓Nat.reduceEqDiff,xx,L31,m66,c,hx,hl,hsc,hz2,Int.natCast_mul]
 simp only[L31,m66]at hs
 rw[zaf (fd:=fd66) rfl]
 simp(disch:=apply zq;omega) only[go_sem,simprocAttr,↓Nat.reduceEqDiff,xx,fd66,m66]
 rw[zaj (S31 w s a f l key) 4 (by unfold LF;omega)]
 . rw[S31,o4_4];simp(disch:=apply zq;omega) only[go_sem,simprocAttr,↓Nat.reduceEqDiff,xx,P4]
 . simp(disch:=apply zq;omega) only[go_sem,simprocAttr,↓Nat.reduceEqDiff,xx,S31,o4]
 . exact hs
 . simp(disch:=apply zq;omega) only[go_sem,simprocAttr,↓Nat.reduceEqDiff,xx,S31]
end
end Go.Proofs.S97.K
