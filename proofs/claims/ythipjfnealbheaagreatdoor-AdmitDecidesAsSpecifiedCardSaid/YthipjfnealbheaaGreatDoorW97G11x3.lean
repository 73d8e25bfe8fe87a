/-
  Chapter 8: which numbers are powers of two. No condition.
-/
import Derived.Test.YthipjfnealbheaaGreatDoorW97G10x3
import Derived.Test.YthipjfnealbheaaGreatDoorW97G9x3
set_option linter.all false
open BitVec renaming ofInt_natCast->wB,toNat_ofNat->wC
open Nat renaming exists_eq_add_of_le'->wD,mul_le_mul_right->wE,mod_lt->wF,mod_eq_of_lt->wG
open Int renaming natCast_mul->wH
namespace Go.Proofs.S97.K
open Go Go.Ev Go.Proofs
theorem pc0 :∀b:Fin 256,pcb b.val=0->b.val=0:=by decide +kernel
theorem pc1 :∀b:Fin 256,pcb b.val=1->∃i:Fin 8,b.val=2^i.val:=by decide +kernel
theorem sw2 :∀k:Fin 63,(sw (BitVec.ofNat 64 (2^k.val))&&&127#64).toNat=1:=by decide +kernel
theorem pc_0 {b:Nat}(h:b<256)(h0:pcb b=0):b=0:=pc0 ⟨b,h⟩ h0
theorem pc_1 {b:Nat}(h:b<256)(h0:pcb b=1):∃i,i<8/\b=2^i:=by
 obtain⟨i,hi⟩:=pc1 ⟨b,h⟩ h0
 exact⟨i.val,i.isLt,hi⟩
theorem zkn {w j i:Nat}(h:w=2^(8*j)*2^i)(hw:w<2^63):isP (w:Int):=by
 rw[<-Nat.pow_add]at h
 have hk:8*j+i<63:=by
  rw[h]at hw
  exact(Nat.pow_lt_pow_iff_right (by decide)).1 hw
 exact⟨8*j+i,hk,by rw[ztt hk,h]⟩
theorem one8 {p0 p1 p2 p3 p4 p5 p6 p7:Nat}(h:p0+p1+(p2+p3)+(p4+p5+(p6+p7))=1) :
  (p0=1/\p1=0/\p2=0/\p3=0/\p4=0/\p5=0/\p6=0/\p7=0)\/(p0=0/\p1=1/\p2=0/\p3=0/\p4=0/\p5=0/\p6=0/\p7=0) \/
  (p0=0/\p1=0/\p2=1/\p3=0/\p4=0/\p5=0/\p6=0/\p7=0)\/(p0=0/\p1=0/\p2=0/\p3=1/\p4=0/\p5=0/\p6=0/\p7=0) \/
  (p0=0/\p1=0/\p2=0/\p3=0/\p4=1/\p5=0/\p6=0/\p7=0)\/(p0=0/\p1=0/\p2=0/\p3=0/\p4=0/\p5=1/\p6=0/\p7=0) \/
  (p0=0/\p1=0/\p2=0/\p3=0/\p4=0/\p5=0/\p6=1/\p7=0)\/(p0=0/\p1=0/\p2=0/\p3=0/\p4=0/\p5=0/\p6=0/\p7=1):=by omega
theorem qf7 {w:Nat}(hw:w<2^63):(sw (BitVec.ofNat 64 w)&&&127#64).toNat=1↔isP (w:Int):=by
 have hx:(BitVec.ofNat 64 w).toNat=w:=by rw[wC,wG (by omega)]
 constructor
 . intro h
   obtain⟨b0,b1,b2,b3,b4,b5,b6,b7,l0,l1,l2,l3,l4,l5,l6,l7,he,hz⟩:=Z_8 (x:=w) (by omega)
   have hn:=qms (BitVec.ofNat 64 w)
   rw[hx,hz]at hn
   have ht:=z5f (zkk _ l0) (zkk _ l1) (zkk _ l2) (zkk _ l3) (zkk _ l4) (zkk _ l5) (zkk _ l6) (zkk _ l7) hn
   have h':(a6 (a5 (a4 (a3 (a2 (a1 (BitVec.ofNat 64 w))))))&&&127#64).toNat=1:=h
   rw[ht]at h'
   clear hn ht hz h hx
   rcases one8 h' with ⟨e0,e1,e2,e3,e4,e5,e6,e7⟩|⟨e0,e1,e2,e3,e4,e5,e6,e7⟩|⟨e0,e1,e2,e3,e4,e5,e6,e7⟩|⟨e0,e1,e2,e3,e4,e5,e6,e7⟩|⟨e0,e1,e2,e3,e4,e5,e6,e7⟩|⟨e0,e1,e2,e3,e4,e5,e6,e7⟩|⟨e0,e1,e2,e3,e4,e5,e6,e7⟩|⟨e0,e1,e2,e3,e4,e5,e6,e7⟩
   . obtain⟨i,hi,e0⟩:=pc_1 l0 e0
     have e1:=pc_0 l1 e1;have e2:=pc_0 l2 e2;have e3:=pc_0 l3 e3;have e4:=pc_0 l4 e4;have e5:=pc_0 l5 e5;have e6:=pc_0 l6 e6;have e7:=pc_0 l7 e7
     exact zkn (j:=0) (i:=i) (by rw[he,<-e0,e1,e2,e3,e4,e5,e6,e7];simp) hw
   . obtain⟨i,hi,e1⟩:=pc_1 l1 e1
     have e0:=pc_0 l0 e0;have e2:=pc_0 l2 e2;have e3:=pc_0 l3 e3;have e4:=pc_0 l4 e4;have e5:=pc_0 l5 e5;have e6:=pc_0 l6 e6;have e7:=pc_0 l7 e7
     exact zkn (j:=1) (i:=i) (by rw[he,<-e1,e0,e2,e3,e4,e5,e6,e7];simp) hw
   . obtain⟨i,hi,e2⟩:=pc_1 l2 e2
     have e0:=pc_0 l0 e0;have e1:=pc_0 l1 e1;have e3:=pc_0 l3 e3;have e4:=pc_0 l4 e4;have e5:=pc_0 l5 e5;have e6:=pc_0 l6 e6;have e7:=pc_0 l7 e7
     exact zkn (j:=2) (i:=i) (by rw[he,<-e2,e0,e1,e3,e4,e5,e6,e7];simp;omega) hw
   . obtain⟨i,hi,e3⟩:=pc_1 l3 e3
     have e0:=pc_0 l0 e0;have e1:=pc_0 l1 e1;have e2:=pc_0 l2 e2;have e4:=pc_0 l4 e4;have e5:=pc_0 l5 e5;have e6:=pc_0 l6 e6;have e7:=pc_0 l7 e7
     exact zkn (j:=3) (i:=i) (by rw[he,<-e3,e0,e1,e2,e4,e5,e6,e7];simp;omega) hw
   . obtain⟨i,hi,e4⟩:=pc_1 l4 e4
     have e0:=pc_0 l0 e0;have e1:=pc_0 l1 e1;have e2:=pc_0 l2 e2;have e3:=pc_0 l3 e3;have e5:=pc_0 l5 e5;have e6:=pc_0 l6 e6;have e7:=pc_0 l7 e7
     exact zkn (j:=4) (i:=i) (by rw[he,<-e4,e0,e1,e2,e3,e5,e6,e7];simp;omega) hw
   . obtain⟨i,hi,e5⟩:=pc_1 l5 e5
     have e0:=pc_0 l0 e0;have e1:=pc_0 l1 e1;have e2:=pc_0 l2 e2;have e3:=pc_0 l3 e3;have e4:=pc_0 l4 e4;have e6:=pc_0 l6 e6;have e7:=pc_0 l7 e7
     exact zkn (j:=5) (i:=i) (by rw[he,<-e5,e0,e1,e2,e3,e4,e6,e7];simp;omega) hw
   . obtain⟨i,hi,e6⟩:=pc_1 l6 e6
     have e0:=pc_0 l0 e0;have e1:=pc_0 l1 e1;have e2:=pc_0 l2 e2;have e3:=pc_0 l3 e3;have e4:=pc_0 l4 e4;have e5:=pc_0 l5 e5;have e7:=pc_0 l7 e7
     exact zkn (j:=6) (i:=i) (by rw[he,<-e6,e0,e1,e2,e3,e4,e5,e7];simp;omega) hw
   . obtain⟨i,hi,e7⟩:=pc_1 l7 e7
     have e0:=pc_0 l0 e0;have e1:=pc_0 l1 e1;have e2:=pc_0 l2 e2;have e3:=pc_0 l3 e3;have e4:=pc_0 l4 e4;have e5:=pc_0 l5 e5;have e6:=pc_0 l6 e6
     exact zkn (j:=7) (i:=i) (by rw[he,<-e7,e0,e1,e2,e3,e4,e5,e6];simp;omega) hw
 . rintro ⟨k,hk,e⟩
   rw[ztt hk]at e
   have e2:w=2^k:=by omega
   rw[e2]
   exact sw2 ⟨k,hk⟩
variable {gl :Gl} {n:Nat}
theorem z6j (h:4<=n){w:Int}(hw:w<=9223372036854775807):∃b:Bool,(b=true↔isP w)/\call gl tab n 74 [i64 w] []=some (.bool b,[],[]):=by
 obtain⟨d,rfl⟩:=wD h
 by_cases h0:0<w
 case neg =>
  refine⟨false,⟨(fun h=>by cases h),fun⟨i,hi,e⟩=>absurd (zxu hi).1 (by omega)⟩,?_⟩
  rw[zaf (fd:=fd74) rfl]
  simp(disch:=apply zq;omega) only[go_sem,simprocAttr,↓Nat.reduceEqDiff,xx,fd74,m74]
 obtain⟨w,rfl⟩:∃v:Nat,w=v:=⟨w.toNat,by omega⟩
 have hs:=qf7 (w:=w) (by omega)
 have c53:=@qcv gl (d+2) (by omega) (BitVec.ofNat 64 w)
 have hlt:(sw (BitVec.ofNat 64 w)&&&127#64).toNat<=127:=by rw[BitVec.toNat_and];exact Nat.and_le_right
 generalize sw (BitVec.ofNat 64 w)&&&127#64=y at *
 have hi:y.toInt=(y.toNat:Int):=BitVec.toInt_eq_toNat_of_lt (by omega)
 rw[hi]at c53
 have hx:(BitVec.ofNat 64 w).toNat=w:=by rw[wC,wG (by omega)]
 rw[hx]at c53
 have c44:call gl tab (d+3) 95 [.int .u64 (w:Int)] []=some (.int .i64 (y.toNat:Int),[],[]):=by
  rw[zaf (fd:=fd95) rfl]
  simp(disch:=apply zq;omega) only[go_sem,simprocAttr,↓Nat.reduceEqDiff,xx,fd95,m95,c53]
 have hcv:IntKind.wrap .u64 (w:Int)=(w:Int):=by rw[zoy,wB,hx]
 have hcv2:((BitVec.ofInt 64 (w:Int)).toNat:Int)=(w:Int):=by rw[wB,hx]
 refine⟨(y.toNat:Int)==1,?_,?_⟩
 . rw[<-hs,beq_iff_eq];omega
 . rw[zaf (fd:=fd74) rfl]
   simp(disch:=apply zq;omega) only[go_sem,simprocAttr,↓Nat.reduceEqDiff,xx,fd74,m74,c44,hcv,hcv2,hx]
end Go.Proofs.S97.K
namespace Go.Proofs.S97.K
open Go Go.Ev Go.Proofs
section
variable {gl :Gl} {n:Nat} [Nonempty (H.GlK gl)]
def pl (key:List UInt8)(w r:Nat):Nat:=r*w+plc key r%w
theorem zxx {key:List UInt8}{w r:Nat}(hw:1<=w)(hr:r<4):pl key w r<4*w:=by
 have h1:=wF (plc key r) (show 0<w by omega)
 have h2:r*w<=3*w:=wE w (by omega)
 unfold pl;omega
def P4 (p:Nat->Nat):List AV:=[i64 (p 0),i64 (p 1),i64 (p 2),i64 (p 3)]
def o4 (p:Nat->Nat)(i:Nat):List AV:=[i64 (if 0<i then(p 0:Nat)else 0),i64 (if 1<i then(p 1:Nat)else 0),i64 (if 2<i then(p 2:Nat)else 0),i64 (if 3<i then(p 3:Nat)else 0)]
theorem qhc (p:Nat->Nat)(i:Nat):(o4 p i).length=4:=rfl
theorem qhd (p:Nat->Nat)(i:Nat)(h:i<4):(o4 p i)[i]? =some (i64 0):=by
 match i,h with
 | 0,_=>rfl
 | 1,_=>rfl
 | 2,_=>rfl
 | 3,_=>rfl
theorem qhb (p:Nat->Nat)(i:Nat)(h:i<4):(o4 p i).set i (i64 (p i))=o4 p (i+1):=by
 match i,h with
 | 0,_=>rfl
 | 1,_=>rfl
 | 2,_=>rfl
 | 3,_=>rfl
theorem o4_4 (p:Nat->Nat):o4 p 4=P4 p:=rfl
theorem qlj (p:Nat->Nat)(i:Nat):(o4 p i).all AV.scalar=true:=rfl
def L31 :MC:=match m66 with| .seq _ (.seq (.seq _ (.block _ (.loop _ b))) _)=>b|_=>.skip
def S31 (w:Nat)(s a:Int)(f:Bool)(l:List Int)(key:List UInt8)(i:Nat):St :=
 ⟨[.set 6 (i64 i),.set 4 (.ptr 4 []),.set 2 (.ptr 2 []),.set 1 (.str key)],[(4,.fix (.ar 4 .sc) (.agg (o4 (pl key w) i))),(2,.fix sK (.agg [i64 w,i64 s,i64 a,.lst f .sc (ns l)]))]⟩
theorem of_at (h:9<=n){key:List UInt8}(hk:key.length<=5000){w:Nat}(hw:1<=w/\w<=4096){s a:Int}{f:Bool}{l:List Int}:call gl tab n 66 [.agg [i64 w,i64 s,i64 a,.lst f .sc (ns l)],.str key] []=some (.agg (P4 (pl key w)),[],[]):=by
 obtain⟨d,rfl⟩:=wD h
 have hs:∀i,i<4->za1 [.slot 1,.slot 2,.slot 4,.slot 6,.key 2,.key 4] (evC gl (call gl tab (d+8)) L31 (S31 w s a f l key i))=some (S31 w s a f l key (i+1)):=fun i hi=>by
  have c:=@place_at gl (d+8) _ (by omega) key hk i w hi hw
  have hm:=wF (plc key i) (show 0<w by omega)
  have hx:=qhd (pl key w) i hi
  have hy:=qhb (pl key w) i hi
  have hl:=qhc (pl key w) i
  have hsc:=qlj (pl key w) i
  have hlt:i*w<=3*w:=wE w (by omega)
  have e:pl key w i=i*w+plc key i%w:=rfl
  rw[e]at hy
  simp only[Int.natCast_add,wH]at hy
  generalize plc key i%w=y at *
  generalize hz:i*w=z at *
  have hz2:(i:Int)*(w:Int)=(z:Int):=by rw[<-hz];exact(wH i w).symm
  rw[hz2]at hy
  rw[S31,S31,<-hy]
  generalize o4 (pl key w) i=o at *
  simp(disch:=apply zq;omega) only[go_sem,simprocAttr,↓Nat.reduceEqDiff,xx,L31,m66,c,hx,hl,hsc,hz2,wH]
 simp only[L31,m66]at hs
 rw[zaf (fd:=fd66) rfl]
 simp(disch:=apply zq;omega) only[go_sem,simprocAttr,↓Nat.reduceEqDiff,xx,fd66,m66]
 rw[zaj (S31 w s a f l key) 4 (by unfold LF;omega)]
 . rw[S31,o4_4];simp(disch:=apply zq;omega) only[go_sem,simprocAttr,↓Nat.reduceEqDiff,xx,P4]
 . simp(disch:=apply zq;omega) only[go_sem,simprocAttr,↓Nat.reduceEqDiff,xx,S31,o4]
 . exact hs
 . simp(disch:=apply zq;omega) only[go_sem,simprocAttr,↓Nat.reduceEqDiff,xx,S31]
end
end Go.Proofs.S97.K
namespace Go.Proofs.S97.K
open Go Go.Ev Go.Proofs
section
variable {gl :Gl} {n:Nat}
def mn (x y:Int):Int:=if y<x then y else x
def lea (l:List Int)(p:Nat->Nat):Nat->Int
 | 0=>15
 | i+1=>mn (lea l p i) (nat l (p i))
theorem qj8 (p:Nat->Nat)(i:Nat)(h:i<4):(P4 p)[i]? =some (i64 (p i)):=by
 match i,h with
 | 0,_=>rfl
 | 1,_=>rfl
 | 2,_=>rfl
 | 3,_=>rfl
theorem z45 (p:Nat->Nat):(P4 p).length=4:=rfl
theorem qfo (p:Nat->Nat):(P4 p).all AV.scalar=true:=rfl
def lpr :OB:=.lp 670 [.ptr 100001 []] .ready
theorem round_at (h:1<=n)(a x:Int):call gl tab n 1000670 [.cp .sc (i64 x)] [(100000,lpr),(100001,.fix .sc (i64 a))]=some (.bool true,[(100000,lpr),(100001,.fix .sc (i64 (mn a x)))],[]):=by
 obtain⟨d,rfl⟩:=wD h
 rw[zgq (fd:=zwk) rfl rfl]
 simp(disch:=apply zq;omega) only[go_sem,simprocAttr,↓Nat.reduceEqDiff,xx,zwk,qde,qdc,lpr,zie,zk0,mn]
theorem qeq (h:1<=n)(f:Bool)(m:Sh)(l:List Int)(p:Nat->Nat):call gl tab n 68 [.lst f m (ns l),.agg (P4 p)] []=some (.fn 91 [.ptr 20000 [],.ptr 20001 []],[],[.fix (.ar 4 .sc) (.agg (P4 p)),.fix .sc (.lst f m (ns l))]):=by
 obtain⟨d,rfl⟩:=wD h
 rw[zbl (fd:=fd68) rfl]
 simp(disch:=apply zq;omega) only[go_sem,simprocAttr,↓Nat.reduceEqDiff,xx,fd68,m68,P4]
def L43 :MC:=match m91 with| .seq _ (.block _ (.loop _ b))=>b|_=>.skip
def S43 (f:Bool)(m:Sh)(l:List Int)(p:Nat->Nat)(i:Nat):St :=
 ⟨[.set 7 (i64 i),.set 6 (.agg (P4 p)),.set 2 (.ptr 100003 []),.set 0 (.yld 100000)],[(100003,.fix .sc (.lst f m (ns l))),(100002,.fix (.ar 4 .sc) (.agg (P4 p))),(100001,.fix .sc (i64 (lea l p i))),(100000,lpr)]⟩
set_option maxHeartbeats 1000000 in
theorem z17 (h:2<=n){f:Bool}{l:List Int}{p:Nat->Nat}(hp:∀i,i<4->p i<l.length)(hl:l.length<2^20) :
  call gl tab n 91 [.yld 100000,.ptr 100002 [],.ptr 100003 []] [(100000,lpr),(100001,.fix .sc (i64 15)),(100002,.fix (.ar 4 .sc) (.agg (P4 p))),(100003,.fix .sc (.lst f .sc (ns l)))] =
   some (.tup [],[(100000,lpr),(100001,.fix .sc (i64 (lea l p 4))),(100002,.fix (.ar 4 .sc) (.agg (P4 p))),(100003,.fix .sc (.lst f .sc (ns l)))],[]):=by
 obtain⟨d,rfl⟩:=wD h
 have hs:∀i,i<4->za1 [.slot 0,.slot 2,.slot 6,.slot 7] (evC gl (call gl tab (d+1)) L43 (S43 f .sc l p i))=some (S43 f .sc l p (i+1)):=fun i hi=>by
  have hx:=ns_at (hp i hi)
  have hy:=qj8 p i hi
  have hlp:=z45 p
  have hsc:=qfo p
  have hpi:=hp i hi
  have c:=@round_at gl (d+1) (by omega) (lea l p i) (nat l (p i))
  have e:lea l p (i+1)=mn (lea l p i) (nat l (p i)):=rfl
  rw[S43,S43,e]
  simp only[lpr]at c
  generalize P4 p=q at *
  simp(disch:=apply zq;omega) only[go_sem,simprocAttr,↓Nat.reduceEqDiff,xx,L43,m91,lpr,hx,hy,hlp,hsc,ns_length,c]
 simp only[L43,m91]at hs
 have hlp:=z45 p
 have hsc:=qfo p
 rw[zbl (fd:=fd91) rfl]
 generalize hq:P4 p=q at *
 simp(disch:=apply zq;omega) only[go_sem,simprocAttr,↓Nat.reduceEqDiff,xx,fd91,m91,lpr,hlp,hsc]
 rw[zaj (S43 f .sc l p) 4 (by unfold LF;omega)]
 . rw[S43,hq];simp(disch:=apply zq;omega) only[go_sem,simprocAttr,↓Nat.reduceEqDiff,xx,lpr]
 . rw[S43,hq];simp(disch:=apply zq;omega) only[go_sem,simprocAttr,↓Nat.reduceEqDiff,xx,lpr,lea]
 . exact hs
 . rw[S43,hq];simp(disch:=apply zq;omega) only[go_sem,simprocAttr,↓Nat.reduceEqDiff,xx,lpr]
theorem z63 (h:3<=n){f:Bool}{l:List Int}{p:Nat->Nat}(hp:∀i,i<4->p i<l.length)(hl:l.length<2^20) :
  call gl tab n 67 [.lst f .sc (ns l),.agg (P4 p)] []=some (i64 (lea l p 4),[],[]):=by
 obtain⟨d,rfl⟩:=wD h
 have c34:=@qeq gl (d+2) (by omega) f .sc l p
 have c43:=@z17 gl (d+2) (by omega) f l p hp hl
 have hlp:=z45 p
 have hsc:=qfo p
 simp only[lpr]at c43
 rw[zaf (fd:=fd67) rfl]
 generalize hq:P4 p=q at *
 simp(disch:=apply zq;omega) only[go_sem,simprocAttr,↓Nat.reduceEqDiff,xx,fd67,m67,hlp,hsc,c34,c43]
end
section
variable {gl :Gl} {n:Nat}
theorem count_at [Nonempty (H.GlK gl)](h:10<=n){key:List UInt8}(hk:key.length<=5000){w:Nat}(hw:1<=w/\w<=4096){s a:Int}{f:Bool}{l:List Int}(hl:l.length=4*w) :
  call gl tab n 82 [.agg [i64 w,i64 s,i64 a,.lst f .sc (ns l)],.str key] []=some (i64 (lea l (pl key w) 4),[],[]):=by
 obtain⟨d,rfl⟩:=wD h
 have c31:=@of_at gl (d+9) _ (by omega) key hk w hw s a f l
 have c33:=@z63 gl (d+9) (by omega) f l (pl key w) (fun i hi=>by rw[hl];exact zxx hw.1 hi) (by omega)
 rw[zaf (fd:=fd82) rfl]
 generalize P4 (pl key w)=q at *
 generalize lea l (pl key w) 4=x at *
 simp(disch:=apply zq;omega) only[go_sem,simprocAttr,↓Nat.reduceEqDiff,xx,fd82,m82,c31,c33]
def L26 :MC:=match m65 with| .seq _ (.seq _ (.seq (.seq _ (.block _ (.loop _ b))) _))=>b|_=>.skip
def S26 (g:Nat->Int)(w:Nat)(s a:Int)(f:Bool)(l:List Int)(key:List UInt8)(i:Nat):St :=
 ⟨[.set 6 (i64 i),.set 5 (i64 (g i)),.set 2 (.ptr 2 []),.set 1 (.str key)],[(2,.fix sK (.agg [i64 w,i64 s,i64 a,.lst f .sc (ns l)]))]⟩
theorem qgf [Nonempty (H.GlR gl)](h:9<=n){key:List UInt8}(hk:key.length<=5000){w:Nat}(hw:1<=w/\w<=4096){s a:Int}{f:Bool}{l:List Int}(hl:l.length=4*w){i:Nat}(hi:i<4) :
  za1 [.slot 1,.slot 2,.slot 5,.slot 6,.key 2] (evC gl (call gl tab n) L26 (S26 (lea l (pl key w)) w s a f l key i))=some (S26 (lea l (pl key w)) w s a f l key (i+1)):=by
 have c:=@rplace_at gl n _ (by omega) key hk i w hi hw
 have hm:=wF (plc key i) (show 0<w by omega)
 have hp:=zxx (key:=key) hw.1 hi
 have hx:=ns_at (show pl key w i<l.length by omega)
 have hlt:i*w<=3*w:=wE w (by omega)
 have e:pl key w i=i*w+plc key i%w:=rfl
 have e2:lea l (pl key w) (i+1)=mn (lea l (pl key w) i) (nat l (pl key w i)):=rfl
 rw[S26,S26,e2]
 generalize lea l (pl key w) i=b at *
 rw[e]at hx hp ⊢
 generalize plc key i%w=y at *
 generalize hz:i*w=z at *
 have hz2:(i:Int)*(w:Int)=(z:Int):=by rw[<-hz];exact(wH i w).symm
 by_cases hb:nat l (z+y)<b
 . simp(implicitDefEqProofs:=false) (disch:=apply zq;omega) only[go_sem,simprocAttr,↓Nat.reduceEqDiff,xx,L26,m65,c,hx,hz2,ns_length,mn,hb]
 . simp(implicitDefEqProofs:=false) (disch:=apply zq;omega) only[go_sem,simprocAttr,↓Nat.reduceEqDiff,xx,L26,m65,c,hx,hz2,ns_length,mn,hb]
theorem rcount_at [Nonempty (H.GlR gl)](h:10<=n){key:List UInt8}(hk:key.length<=5000){w:Nat}(hw:1<=w/\w<=4096){s a:Int}{f:Bool}{l:List Int}(hl:l.length=4*w) :
  call gl tab n 65 [.agg [i64 w,i64 s,i64 a,.lst f .sc (ns l)],.str key] []=some (i64 (lea l (pl key w) 4),[],[]):=by
 obtain⟨d,rfl⟩:=wD h
 have hs:=fun i hi=>@qgf gl (d+9) _ (by omega) key hk w hw s a f l hl i hi
 simp only[L26,m65]at hs
 have hg:lea l (pl key w) 0=15:=rfl
 generalize lea l (pl key w)=g at *
 rw[zaf (fd:=fd65) rfl]
 simp(disch:=apply zq;omega) only[go_sem,simprocAttr,↓Nat.reduceEqDiff,xx,fd65,m65]
 rw[zaj (S26 g w s a f l key) 4 (by unfold LF;omega)]
 . simp(disch:=apply zq;omega) only[go_sem,simprocAttr,↓Nat.reduceEqDiff,xx,S26]
 . simp(disch:=apply zq;omega) only[go_sem,simprocAttr,↓Nat.reduceEqDiff,xx,S26,hg]
 . exact hs
 . simp(disch:=apply zq;omega) only[go_sem,simprocAttr,↓Nat.reduceEqDiff,xx,S26]
end
end Go.Proofs.S97.K
namespace Go.Proofs.S97.K
open Go Go.Ev Go.Proofs
variable {gl :Gl} {n:Nat}
theorem ns_set (l:List Int)(i:Nat)(v:Int):(ns l).set i (i64 v)=ns (l.set i v):=by simp[ns]
theorem ns_rep (k:Nat):List.replicate k (AV.int .i64 0)=ns (List.replicate k 0):=by simp[ns]
def mpd (f:Nat->Int):Nat->List Int
 | 0=>[]
 | i+1=>mpd f i++[f i]
def bufM (f:Nat->Int)(N i:Nat):List Int:=mpd f i++List.replicate (N-i) 0
def S36 (b:Bool)(fn:AV)(l:List Int)(f:Nat->Int)(i:Nat):St :=
 ⟨[.set 13 (i64 i),.set 12 (i64 l.length),.set 11 (.lst b .sc (ns l)),.set 5 (.sl 10 [] 0 l.length),.set 1 fn],[(10,.grow .sc (ns (bufM f l.length i)))]⟩
end Go.Proofs.S97.K
namespace Go.Proofs.S97.K
open Go Go.Ev Go.Proofs
variable {gl :Gl} {n:Nat}
def Cs (l:List Int):Prop:=∀i,i<l.length->0<=nat l i/\nat l i<=15
theorem ns_noImms :∀(l:List Int),zcz (ns l)=true
 | []=>rfl
 | x::l=>by
   have:=ns_noImms l
   rw[ns,List.map_cons,zcz,<-ns,this];rfl
end Go.Proofs.S97.K
namespace Go.Proofs.S97.K
open Go Go.Ev Go.Proofs
section
variable {gl :Gl} {n:Nat}
def ad (l:List Int)(p:Nat->Nat)(c:Int):Nat->List Int
 | 0=>l
 | i+1=>if nat (ad l p c i) (p i)=c/\c<15 then(ad l p c i).set (p i) (c+1)else ad l p c i
theorem cloneI_at (h:1<=n){f:Bool}{l:List Int}(hl:l.length<2^20):call gl tab n 49 [.lst f .sc (ns l)] []=some (.sl 20000 [] 0 l.length,[],[.grow .sc (ns l)]):=by
 obtain⟨d,rfl⟩:=wD h
 rw[zgq (fd:=fd49) rfl rfl]
 have h1:l.length<=LIM:=by unfold LIM;omega
 simp[zjj,ns_length,h1,Sh.beq,Sh.beqs]
end
end Go.Proofs.S97.K
namespace Go.Proofs.S97.K
open Go Go.Ev Go.Proofs
section
variable {gl :Gl} {n:Nat} [Nonempty (H.GlK gl)]
structure Sk (w:Nat)(s a:Int)(l:List Int):Prop where
 kw:1<=w/\w<=4096
 ks:1<=s/\s<=1048576
 ka:0<=a/\a<s
 kl:l.length=4*w
 kc:Cs l
end
end Go.Proofs.S97.K
