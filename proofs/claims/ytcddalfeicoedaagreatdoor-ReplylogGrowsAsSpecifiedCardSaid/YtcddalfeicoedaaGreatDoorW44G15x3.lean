/-
  Chapter 3: how many bits are set, as the program and the specification count them. No condition.
-/
import Derived.Test.YtcddalfeicoedaaGreatDoorW44G14x3
set_option linter.all false
open Nat renaming exists_eq_add_of_le'->wA,mod_eq_of_lt->wB,sub_self->wC,pow_succ->wD,le_refl->wE,testBit_two_pow_mul_add->wF,two_pow_pos->wG,mul_assoc->wH,sub_zero->wI
open BitVec renaming toNat_ofNat->wJ,toNat_not->wK
open List renaming drop_zero->wL,drop_length->wM
namespace Go.Proofs.S44.M
open Go Go.Ev Go.Proofs Go.Mk
open Go.Proofs.S44.H (GlK GlR)
variable {gl :Gl} {n:Nat}
theorem zq8 :∀(k a b:Nat),b<2^k->pcn (2^k*a+b)=pcn a+pcn b
 | 0,a,b,h=>by
   obtain rfl:b=0:=by simpa using h
   rw[pcn_0];simp
 | k+1,a,b,h=>by
   have e:2^(k+1)=2*2^k:=by rw[wD];omega
   have ih:=zq8 k a (b/2) (by omega)
   rw[pcn_two (2^(k+1)*a+b),pcn_two b,e,wH,show(2*(2^k*a)+b)%2=b%2 by omega,show(2*(2^k*a)+b)/2=2^k*a+b/2 by omega,ih]
   omega
theorem zsz (a:Nat){b:Nat}(h:b<256):pcn (256*a+b)=pcn a+pcn b:=zq8 8 a b h
theorem z4s :∀b:Fin 256,B.pcb b.val=b.val%2+(b.val/2%2+(b.val/2/2%2+(b.val/2/2/2%2+(b.val/2/2/2/2%2+(b.val/2/2/2/2/2%2+(b.val/2/2/2/2/2/2%2+b.val/2/2/2/2/2/2/2%2)))))):=by decide +kernel
theorem zgo {b:Nat}(h:b<256):B.pcb b=pcn b:=by
 have:=z4s ⟨b,h⟩
 simp only at this
 rw[this,pcn_two b,pcn_two (b/2),pcn_two (b/2/2),pcn_two (b/2/2/2),pcn_two (b/2/2/2/2),pcn_two (b/2/2/2/2/2),pcn_two (b/2/2/2/2/2/2),pcn_two (b/2/2/2/2/2/2/2),show b/2/2/2/2/2/2/2/2=0 by omega,pcn_0,Nat.add_zero]
theorem z74 :∀(c x:Nat),x<=c->pcn x<=x
 | 0,x,h=>by
    obtain rfl:x=0:=by omega
    rw[pcn_0];omega
 | c+1,x,h=>by
   by_cases h0:x=0
   . subst h0;rw[pcn_0];omega
   . have:=z74 c (x/2) (by omega)
     rw[pcn_two];omega
theorem qdt (x:BitVec 64):(B.sw x&&&127#64).toInt=(pcn x.toNat:Int):=by
 have hlt:=x.isLt
 obtain⟨b0,b1,b2,b3,b4,b5,b6,b7,l0,l1,l2,l3,l4,l5,l6,l7,he,hz⟩:=B.Z_8 (x:=x.toNat) (by omega)
 have hn:=B.Z_nat x
 rw[hz]at hn
 have q0:=B.pcb_le _ l0;have q1:=B.pcb_le _ l1;have q2:=B.pcb_le _ l2;have q3:=B.pcb_le _ l3
 have q4:=B.pcb_le _ l4;have q5:=B.pcb_le _ l5;have q6:=B.pcb_le _ l6;have q7:=B.pcb_le _ l7
 have ht:=B.tail_nat q0 q1 q2 q3 q4 q5 q6 q7 hn
 have h':(B.sw x&&&127#64).toNat=B.pcb b0+B.pcb b1+(B.pcb b2+B.pcb b3)+(B.pcb b4+B.pcb b5+(B.pcb b6+B.pcb b7)):=ht
 have hp:pcn x.toNat=B.pcb b0+B.pcb b1+(B.pcb b2+B.pcb b3)+(B.pcb b4+B.pcb b5+(B.pcb b6+B.pcb b7)):=by
  rw[he,zsz _ l0,zsz _ l1,zsz _ l2,zsz _ l3,zsz _ l4,zsz _ l5,zsz _ l6,zgo l0,zgo l1,zgo l2,zgo l3,zgo l4,zgo l5,zgo l6,zgo l7]
  omega
 have hs:B.pcb b0+B.pcb b1+(B.pcb b2+B.pcb b3)+(B.pcb b4+B.pcb b5+(B.pcb b6+B.pcb b7))<=64:=by
  clear hn ht h' hp hz he
  omega
 rw[<-hp]at h' hs
 rw[BitVec.toInt_eq_toNat_of_lt (by rw[h'];omega),h']
theorem z4x (h:2<=n){x:Nat}(hx:x<=1099511627776):call gl tab n 144 [.int .u64 (x:Int)] []=some (i64 (pcn x),[],[]):=by
 obtain⟨d,rfl⟩:=wA h
 have e:(BitVec.ofNat 64 x).toNat=x:=by rw[wJ,wB (by omega)]
 have c:=@B.ones_at gl (d+1) (by omega) (BitVec.ofNat 64 x)
 rw[qdt,e]at c
 generalize pcn x=y at *
 rw[zad (fd:=z6a) rfl]
 simp(disch:=apply zq;omega) only[go_sem,simprocAttr,↓Nat.reduceEqDiff,xx,z6a,m144,c]
theorem rem2 (y:Nat):zar .rem .i64 (y:Int) 2=some (i64 ((y%2:Nat):Int)):=by
 show(if(2:Int)=0 then none else some (AV.int .i64 (Int.tmod (y:Int) 2)))=_
 rw[if_neg (by decide)];rfl
theorem quo2 {y:Nat}(h:y<=4611686018427387904):zar .quo .i64 (y:Int) 2=some (i64 ((y/2:Nat):Int)):=by
 show(if(2:Int)=0 then none else some (AV.int .i64 (IntKind.i64.wrap ((y:Int).tdiv 2))))=_
 rw[if_neg (by decide),show(y:Int).tdiv 2=((y/2:Nat):Int)from rfl,zax (by omega) (by omega)]
def L73 :MC:=match m149 with| .seq _ (.seq _ (.seq (.block _ (.loop _ b)) _))=>b|_=>.skip
def S73 (x:Nat×Nat):St:=⟨[.set 3 (i64 x.2),.set 0 (i64 x.1)],[]⟩
theorem z3z (h:1<=n){x:Nat}(hx:x<=1099511627776):call gl tab n 149 [i64 x] []=some (i64 (pcn x),[],[]):=by
 obtain⟨d,rfl⟩:=wA h
 have hpx:=z74 x x (wE _)
 obtain⟨⟨y,k⟩,⟨i1,i2⟩,hgo,hit⟩:=zro (f:=evC gl (call gl tab d) L73) (ks:=[.slot 0,.slot 3]) S73
  (fun a=>a.2+pcn a.1=pcn x/\a.1<=x) (fun a=>a.1) (fun a=>(a.1/2,a.2+a.1%2)) (fun a=>decide (0<a.1)) (a0:=(x,0)) (by unfold LF;simp only;omega) ⟨by simp,by simp⟩
  (fun⟨y,k⟩ ⟨h1,h2⟩ hg=>by
    simp only[decide_eq_true_eq]at h1 h2 hg ⊢
    have hp:=pcn_two y
    refine⟨?_,⟨by omega,by omega⟩,by omega⟩
    have em:=rem2 y
    have ed:=quo2 (y:=y) (by omega)
    have hb:k+y%2<=1099511627776:=by omega
    rw[S73,S73]
    simp only
    generalize pcn y=u at *
    generalize y%2=r at *
    generalize y/2=q at *
    have ek:(k:Int)+(r:Int)=((k+r:Nat):Int):=by omega
    generalize k+r=k2 at *
    simp(disch:=apply zq;omega) only[go_sem,simprocAttr,↓Nat.reduceEqDiff,xx,L73,m149,em,ed,ek])
  (fun⟨y,k⟩ ⟨h1,h2⟩ hg=>by
    simp only[decide_eq_false_iff_not]at h1 h2 hg
    rw[S73]
    simp(disch:=apply zq;omega) only[go_sem,simprocAttr,↓Nat.reduceEqDiff,xx,L73,m149])
 simp only[decide_eq_false_iff_not]at i1 i2 hgo
 obtain rfl:y=0:=by omega
 rw[pcn_0]at i1
 obtain rfl:k=pcn x:=by omega
 simp only[L73,m149]at hit
 rw[zad (fd:=z57) rfl]
 simp(disch:=apply zq;omega) only[go_sem,simprocAttr,↓Nat.reduceEqDiff,xx,z57,m149]
 rw[hit _ (by rw[S73];simp(disch:=apply zq;omega) only[go_sem,simprocAttr,↓Nat.reduceEqDiff,xx])]
 rw[S73]
 generalize pcn x=y at *
 simp(disch:=apply zq;omega) only[go_sem,simprocAttr,↓Nat.reduceEqDiff,xx]
end Go.Proofs.S44.M
namespace Go.Proofs.S44.M
open Go Go.Ev Go.Proofs Go.Mk
open Go.Proofs.S44.H (GlK GlR)
variable {gl :Gl} {n:Nat}
def dbl :List UInt8:=[0,1,56,2,57,49,28,3,61,58,42,50,38,29,17,4,62,47,59,36,45,43,51,22,53,39,33,30,24,18,12,5,63,55,48,27,60,41,37,16,46,35,44,21,52,32,23,11,54,26,40,15,34,20,31,10,25,14,19,9,13,8,7,6]
structure GlB (gl:Gl):Prop where
 b:gl.tbl 1=some (.ar 64 .sc,.agg (zac dbl))
theorem glB {gl:Gl}[h:Nonempty (GlB gl)]:gl.tbl 1=some (.ar 64 .sc,.agg (zac dbl)):=h.elim fun h=>h.b
theorem zoi :∀(c s:Nat),s<=c->∃q,s=2^(tr1 s+1)*q+(2^tr1 s-1)
 | c,s,h=>by
   by_cases h1:s%2=1
   . match c,h with
     | 0,h=>omega
     | c+1,h =>
       obtain⟨q,hq⟩:=zoi c (s/2) (by omega)
       refine⟨q,?_⟩
       rw[zse h1]
       have hp:=wG (tr1 (s/2))
       have e1:2^(tr1 (s/2)+1+1)*q=2*(2^(tr1 (s/2)+1)*q):=by rw[wD _ (tr1 (s/2)+1),Nat.mul_comm _ 2,wH]
       have e2:2^(tr1 (s/2)+1)=2*2^tr1 (s/2):=by rw[wD];omega
       rw[e1]
       generalize 2^(tr1 (s/2)+1)*q=u at *
       omega
   . refine⟨s/2,?_⟩
     rw[zkl (by omega)]
     simp only[Nat.zero_add,Nat.pow_one,Nat.pow_zero]
     omega
theorem qa6 {s t q:Nat}(hs:s=2^(t+1)*q+(2^t-1))(hlt:s<2^63)(ht:t<64) :
  (~~~ (BitVec.ofNat 64 s))&&&(BitVec.ofNat 64 (s+1))=BitVec.ofNat 64 (2^t):=by
 have hp:=wG t
 have e2:2^(t+1)=2*2^t:=by rw[wD];omega
 have hs1:s+1=2^(t+1)*q+2^t:=by omega
 refine BitVec.eq_of_getLsbD_eq fun i hi=> ?_
 simp only[BitVec.getLsbD_and,BitVec.getLsbD_not,BitVec.getLsbD_ofNat,hi,decide_true,Bool.true_and]
 rw[hs1,wF _ (show 2^t<2^(t+1) by omega),hs,wF _ (show 2^t-1<2^(t+1) by omega),Nat.testBit_two_pow_sub_one,Nat.testBit_two_pow]
 by_cases h1:i<t+1
 . rw[if_pos h1,if_pos h1]
   by_cases h2:i=t
   . subst h2;simp
   . have h3:i<t:=by omega
     have h4:¬t=i:=by omega
     simp[h3,h4]
 . rw[if_neg h1,if_neg h1]
   have h4:¬t=i:=by omega
   simp[h4]
theorem db_k :∀t:Fin 64,dbl[((BitVec.ofNat 64 (2^t.val)*285870213051353865#64)>>>(58:Nat)).toNat]? =some (UInt8.ofNat t.val)/\((BitVec.ofNat 64 (2^t.val)*285870213051353865#64)>>>(58:Nat)).toNat<64:=by decide +kernel
theorem u8_t :∀t:Fin 64,(UInt8.ofNat t.val).toNat=t.val:=by decide +kernel
theorem qls {t:Nat}(h:t<64):∃k,((BitVec.ofNat 64 (2^t)*285870213051353865#64)>>>(58:Nat)).toNat=k/\k<64/\(zac dbl)[k]? =some (.int .u8 (t:Int)):=by
 obtain⟨h1,h2⟩:=db_k ⟨t,h⟩
 have h3:=u8_t ⟨t,h⟩
 simp only at h1 h2 h3
 refine⟨_,rfl,h2,?_⟩
 rw[zac,List.getElem?_map,h1,Option.map_some,h3]
theorem qar {s:Nat}(hs:s<=1099511627776):BitVec.ofInt 64 (0-((~~~ (BitVec.ofNat 64 s)).toNat:Int))=BitVec.ofNat 64 (s+1):=by
 have hx:(~~~ (BitVec.ofNat 64 s)).toNat=18446744073709551615-s:=by
  rw[wK,wJ,wB (by omega)]
 apply BitVec.eq_of_toNat_eq
 rw[BitVec.toNat_ofInt,wJ,hx]
 omega
theorem z7u {s:Nat}(hs:s<=1099511627776):tr1 s<64:=by
 obtain⟨q,hq⟩:=zoi s s (wE _)
 have h1:2^tr1 s<=s+1:=by
  generalize 2^(tr1 s+1)*q=u at *
  omega
 have h2:2^tr1 s<2^64:=by omega
 exact(Nat.pow_lt_pow_iff_right (by omega)).1 h2
section
variable [Nonempty (GlB gl)]
theorem zwf (h:1<=n){s:Nat}(hs:s<=1099511627776):call gl tab n 146 [.int .u64 ((~~~ (BitVec.ofNat 64 s)).toNat:Int)] []=some (i64 (tr1 s),[],[]):=by
 obtain⟨d,rfl⟩:=wA h
 obtain⟨q,hq⟩:=zoi s s (wE _)
 have ht:=z7u hs
 have hx:(~~~ (BitVec.ofNat 64 s)).toNat=18446744073709551615-s:=by
  rw[wK,wJ,wB (by omega)]
 have h0:(((~~~ (BitVec.ofNat 64 s)).toNat:Int)==0)=false:=by rw[beq_eq_false_iff_ne,hx];omega
 have h1:=qar hs
 have h2:=qa6 hq (by omega) ht
 obtain⟨k,h3,h4,h5⟩:=qls ht
 clear hx hq
 generalize tr1 s=t at *
 generalize ~~~ (BitVec.ofNat 64 s)=x at *
 generalize BitVec.ofNat 64 (s+1)=y at *
 generalize BitVec.ofNat 64 (2^t)=z at *
 have hb:=zab dbl
 rw[zad (fd:=z59) rfl]
 simp(disch:=apply zq;omega) only[go_sem,simprocAttr,↓Nat.reduceEqDiff,xx,z59,m146,glB,h0,h1,h2,h3,h5]
end
end Go.Proofs.S44.M
namespace Go.Proofs.S44.M
open Go Go.Ev Go.Proofs Go.Mk
open Go.Proofs.S44.H (GlK GlR)
variable {gl :Gl} {n:Nat}
theorem z3h [Nonempty (GlB gl)](h:2<=n){s:Nat}(hs:s<=1099511627776):call gl tab n 103 [.int .u64 ((~~~ (BitVec.ofNat 64 s)).toNat:Int)] []=some (i64 (tr1 s),[],[]):=by
 obtain⟨d,rfl⟩:=wA h
 have c:=@zwf gl (d+1) _ (by omega) s hs
 generalize ~~~ (BitVec.ofNat 64 s)=x at *
 generalize tr1 s=t at *
 rw[zad (fd:=z6v) rfl]
 simp(disch:=apply zq;omega) only[go_sem,simprocAttr,↓Nat.reduceEqDiff,xx,z6v,m103,c]
abbrev pkAV (z:Int)(f:Bool)(sh:Sh)(t:List Dg):AV:=.agg [i64 z,.lst f sh (dgL t)]
def Form (z:Int)(t:List Dg):Prop:=0<=z/\z<=1099511627776/\t.length=pcn z.toNat
instance (z :Int) (t:List Dg):Decidable (Form z t):=by unfold Form;infer_instance
theorem ztk (h:3<=n){z:Int}{f:Bool}{sh:Sh}{t:List Dg}(hl:t.length<=1000000)(hz:-9223372036854775808<=z/\z<=9223372036854775807):call gl tab n 102 [pkAV z f sh t] []=some (.bool (decide (Form z t)),[],[]):=by
 obtain⟨d,rfl⟩:=wA h
 have hL:=dgL_length t
 rw[zad (fd:=ztp) rfl]
 by_cases h1:0<=z
 . by_cases h2:z<=1099511627776
   . obtain⟨s,rfl⟩:∃s:Nat,z=s:=⟨z.toNat,by omega⟩
     have c:=@z4x gl (d+2) (by omega) s (by omega)
     have e:(BitVec.ofNat 64 s).toNat=s:=by rw[wJ,wB (by omega)]
     have hF:decide (Form s t)=decide (t.length=pcn s):=decide_eq_decide.2 ⟨fun h=>by have:=h.2.2;simpa using this,fun h=>⟨h1,h2,by simpa using h⟩⟩
     rw[hF]
     generalize pcn s=y at *
     by_cases h3:t.length=y
     . subst h3
       simp(disch:=apply zq;omega) only[go_sem,simprocAttr,↓Nat.reduceEqDiff,xx,ztp,m102,hL,c,e]
     . have h3':¬(t.length:Int)=(y:Int):=by omega
       simp(disch:=apply zq;omega) only[go_sem,simprocAttr,↓Nat.reduceEqDiff,xx,ztp,m102,hL,c,e,h3]
   . rw[decide_eq_false (fun h=>h2 h.2.1)]
     simp(disch:=apply zq;omega) only[go_sem,simprocAttr,↓Nat.reduceEqDiff,xx,ztp,m102,hL]
 . rw[decide_eq_false (fun h=>h1 h.1)]
   simp(disch:=apply zq;omega) only[go_sem,simprocAttr,↓Nat.reduceEqDiff,xx,ztp,m102,hL]
theorem z36 (h:3<=n){z:Int}{f:Bool}{sh:Sh}{t:List Dg}(hl:t.length<=1000000)(hz:-9223372036854775808<=z/\z<=9223372036854775807):call gl tab n 109 [pkAV z f sh t] []=some (.bool (decide (Form z t)),[],[]):=by
 obtain⟨d,rfl⟩:=wA h
 have hL:=dgL_length t
 rw[zad (fd:=zto) rfl]
 by_cases h1:0<=z
 . by_cases h2:z<=1099511627776
   . obtain⟨s,rfl⟩:∃s:Nat,z=s:=⟨z.toNat,by omega⟩
     have c:=@z3z gl (d+2) (by omega) s (by omega)
     have hF:decide (Form s t)=decide (t.length=pcn s):=decide_eq_decide.2 ⟨fun h=>by have:=h.2.2;simpa using this,fun h=>⟨h1,h2,by simpa using h⟩⟩
     rw[hF]
     generalize pcn s=y at *
     by_cases h3:t.length=y
     . subst h3
       simp(disch:=apply zq;omega) only[go_sem,simprocAttr,↓Nat.reduceEqDiff,xx,zto,m109,hL,c]
     . have h3':¬(t.length:Int)=(y:Int):=by omega
       simp(disch:=apply zq;omega) only[go_sem,simprocAttr,↓Nat.reduceEqDiff,xx,zto,m109,hL,c,h3]
   . rw[decide_eq_false (fun h=>h2 h.2.1)]
     simp(disch:=apply zq;omega) only[go_sem,simprocAttr,↓Nat.reduceEqDiff,xx,zto,m109,hL]
 . rw[decide_eq_false (fun h=>h1 h.1)]
   simp(disch:=apply zq;omega) only[go_sem,simprocAttr,↓Nat.reduceEqDiff,xx,zto,m109,hL]
end Go.Proofs.S44.M
namespace Go.Proofs.S44.M
open Go Go.Ev Go.Proofs Go.Mk
open Go.Proofs.S44.H (GlK GlR)
variable {gl :Gl} {n:Nat}
def bk (t:List Dg)(d:Dg):Dg:=t.foldr nd d
theorem zmv (t:List Dg){d:Dg}(h:d.length=16):(bk t d).length=16:=by
 cases t with
 | nil=>exact h
 | cons x l=>exact zfm _ _
theorem zt5 {t:List Dg}{d:Dg}{i:Nat}(h:i<t.length):bk (t.drop i) d=nd (dgA t i) (bk (t.drop (i+1)) d):=by
 rw[List.drop_eq_getElem_cons h]
 show nd t[i] (bk (t.drop (i+1)) d)=_
 rw[dgA,List.getD_eq_getElem?_getD,List.getElem?_eq_getElem h,Option.getD_some]
abbrev LP (r:Nat):OB:=.lp r [.ptr 100001 []] .ready
abbrev cD (d:Dg):OB:=.fix (.ar 16 .sc) (bAV d)
section
variable [Nonempty (GlK gl)]
theorem z9z (h:8<=n)(i:Int){x d:Dg}(hx:x.length=16)(hd:d.length=16) :
  call gl tab n 1000600 [i64 i,bAV x] [(100000,LP 600),(100001,cD d)]=some (.bool true,[(100000,LP 600),(100001,cD (nd x d))],[]):=by
 obtain⟨k,rfl⟩:=wA h
 have e:=@zl2 gl (k+7) _ (by omega) _ _ hx hd
 have e3:=zfm x d
 have e4:=H.bytes_all (nd x d)
 have x2:=H.bytes_all x
 have x1:=b16t hx
 generalize nd x d=q at *
 rw[zk4 (fd:=zvo) rfl rfl]
 simp(disch:=apply zq;omega) only[go_sem,simprocAttr,↓Nat.reduceEqDiff,xx,zvo,qa3,qa1,↓out16_eq,H.out16_len,H.out16_all,H.out16_pl,hx,x1,x2,e,e3,e4]
theorem z90 (h:8<=n)(i:Int){x d:Dg}(hx:x.length=16)(hd:d.length=16) :
  call gl tab n 1000520 [i64 i,bAV x] [(100000,LP 520),(100001,cD d)]=some (.bool true,[(100000,LP 520),(100001,cD (nd x d))],[]):=by
 obtain⟨k,rfl⟩:=wA h
 have e:=@zl2 gl (k+7) _ (by omega) _ _ hx hd
 have e3:=zfm x d
 have e4:=H.bytes_all (nd x d)
 have x2:=H.bytes_all x
 have x1:=b16t hx
 generalize nd x d=q at *
 rw[zk4 (fd:=zvp) rfl rfl]
 simp(disch:=apply zq;omega) only[go_sem,simprocAttr,↓Nat.reduceEqDiff,xx,zvp,qa4,qa2,↓out16_eq,H.out16_len,H.out16_all,H.out16_pl,hx,x1,x2,e,e3,e4]
end
theorem zmw (h:1<=n){f:Bool}{sh:Sh}{t:List Dg}:call gl tab n 104 [.lst f sh (dgL t)] []=some (.fn 147 [.ptr 20000 []],[],[.fix .sc (.lst f sh (dgL t))]):=by
 obtain⟨d,rfl⟩:=wA h
 rw[za7 (fd:=z6u) rfl]
 simp(disch:=apply zq;omega) only[go_sem,simprocAttr,↓Nat.reduceEqDiff,xx,z6u,m104]
def L72 :MC:=match m147 with| .seq _ (.block _ (.loop _ b))=>b|_=>.skip
def S72 (r:Nat)(f:Bool)(sh:Sh)(t:List Dg)(d:Dg)(i:Nat):St :=
 ⟨[.set 3 (i64 ((t.length:Int)-1-i)),.set 1 (.ptr 100002 []),.set 0 (.yld 100000)],[(100002,.fix .sc (.lst f sh (dgL t))),(100001,cD (bk (t.drop (t.length-i)) d)),(100000,LP r)]⟩
section
variable [Nonempty (GlK gl)]
theorem zwg {k:Nat}(hk:8<=k){f:Bool}{sh:Sh}{t:List Dg}{d:Dg}{i:Nat}(hi:i<t.length)(hl:t.length<=1000000)(ha:All16 t)(hd:d.length=16)(hs:Sd t sh sB) :
  zbd [.slot 0,.slot 1,.slot 3] (evC gl (call gl tab k) L72 (S72 600 f sh t d i))=some (S72 600 f sh t d (i+1)):=by
 obtain rfl:sh=sB:=by rcases hs with hs|hs;subst hs;simp at hi;exact hs
 have hL:=dgL_length t
 have hA:=dgL_at (l:=t) (i:=t.length-1-i) (by omega)
 have q1:=ha.at (i:=t.length-1-i) (by omega)
 have hb:=@zt5 t d (t.length-1-i) (by omega)
 have hq:=zmv (t.drop (t.length-1-i+1)) hd
 have q2:=H.bytes_all (dgA t (t.length-1-i))
 have c:=@z9z gl k _ hk ((t.length-1-i:Nat):Int) _ _ q1 hq
 rw[<-hb]at c
 rw[show t.length-1-i+1=t.length-i by omega]at c
 rw[S72,S72,show t.length-(i+1)=t.length-1-i by omega]
 have e1:(t.length:Int)-1-(i:Int)=((t.length-1-i:Nat):Int):=by omega
 have e2:(t.length:Int)-1-((i+1:Nat):Int)=((t.length-1-i:Nat):Int)-1:=by omega
 rw[e1,e2]
 clear hb hq e1 e2
 generalize bk (t.drop (t.length-i)) d=d1 at *
 generalize bk (t.drop (t.length-1-i)) d=d2 at *
 generalize dgA t (t.length-1-i)=x at *
 have hj:t.length-1-i<t.length:=by omega
 generalize t.length-1-i=j at *
 simp(disch:=apply zq;omega) only[go_sem,simprocAttr,↓Nat.reduceEqDiff,xx,L72,m147,hL,hA,q1,q2,c]
theorem z29 (h:9<=n){f:Bool}{sh:Sh}{t:List Dg}{d:Dg}(hl:t.length<=1000000)(ha:All16 t)(hd:d.length=16)(hs:Sd t sh sB) :
  call gl tab n 147 [.yld 100000,.ptr 100002 []] [(100000,LP 600),(100001,cD d),(100002,.fix .sc (.lst f sh (dgL t)))]=some (.tup [],[(100000,LP 600),(100001,cD (bk t d)),(100002,.fix .sc (.lst f sh (dgL t)))],[]):=by
 obtain⟨k,rfl⟩:=wA h
 have hL:=dgL_length t
 have st:=fun i hi=>@zwg gl _ (k+8) (by omega) f sh t d i hi hl ha hd hs
 simp only[L72,m147]at st
 rw[za7 (fd:=zxy) rfl]
 simp(disch:=apply zq;omega) only[go_sem,simprocAttr,↓Nat.reduceEqDiff,xx,zxy,m147,hL]
 rw[zag (S72 600 f sh t d) t.length (by unfold LF;omega)]
 . rw[S72,wC,wL,show(t.length:Int)-1-(t.length:Int)=-1 by omega]
   simp(disch:=apply zq;omega) only[go_sem,simprocAttr,↓Nat.reduceEqDiff,xx,hL]
 . rw[S72,wI,wM,show bk [] d=d from rfl,show(t.length:Int)-1-((0:Nat):Int)=(t.length:Int)-1 by omega]
   simp(disch:=apply zq;omega) only[go_sem,simprocAttr,↓Nat.reduceEqDiff,xx]
 . exact st
 . rw[S72,wC,wL,show(t.length:Int)-1-(t.length:Int)=-1 by omega]
   simp(disch:=apply zq;omega) only[go_sem,simprocAttr,↓Nat.reduceEqDiff,xx,hL]
end
section
variable [Nonempty (GlK gl)]
theorem zwh {k:Nat}(hk:8<=k){f:Bool}{sh:Sh}{t:List Dg}{d:Dg}{i:Nat}(hi:i<t.length)(hl:t.length<=1000000)(ha:All16 t)(hd:d.length=16)(hs:Sd t sh sB) :
  zbd [.slot 0,.slot 1,.slot 3] (evC gl (call gl tab k) L72 (S72 520 f sh t d i))=some (S72 520 f sh t d (i+1)):=by
 obtain rfl:sh=sB:=by rcases hs with hs|hs;subst hs;simp at hi;exact hs
 have hL:=dgL_length t
 have hA:=dgL_at (l:=t) (i:=t.length-1-i) (by omega)
 have q1:=ha.at (i:=t.length-1-i) (by omega)
 have hb:=@zt5 t d (t.length-1-i) (by omega)
 have hq:=zmv (t.drop (t.length-1-i+1)) hd
 have q2:=H.bytes_all (dgA t (t.length-1-i))
 have c:=@z90 gl k _ hk ((t.length-1-i:Nat):Int) _ _ q1 hq
 rw[<-hb]at c
 rw[show t.length-1-i+1=t.length-i by omega]at c
 rw[S72,S72,show t.length-(i+1)=t.length-1-i by omega]
 have e1:(t.length:Int)-1-(i:Int)=((t.length-1-i:Nat):Int):=by omega
 have e2:(t.length:Int)-1-((i+1:Nat):Int)=((t.length-1-i:Nat):Int)-1:=by omega
 rw[e1,e2]
 clear hb hq e1 e2
 generalize bk (t.drop (t.length-i)) d=d1 at *
 generalize bk (t.drop (t.length-1-i)) d=d2 at *
 generalize dgA t (t.length-1-i)=x at *
 have hj:t.length-1-i<t.length:=by omega
 generalize t.length-1-i=j at *
 simp(disch:=apply zq;omega) only[go_sem,simprocAttr,↓Nat.reduceEqDiff,xx,L72,m147,hL,hA,q1,q2,c]
theorem z3a (h:9<=n){f:Bool}{sh:Sh}{t:List Dg}{d:Dg}(hl:t.length<=1000000)(ha:All16 t)(hd:d.length=16)(hs:Sd t sh sB) :
  call gl tab n 147 [.yld 100000,.ptr 100002 []] [(100000,LP 520),(100001,cD d),(100002,.fix .sc (.lst f sh (dgL t)))]=some (.tup [],[(100000,LP 520),(100001,cD (bk t d)),(100002,.fix .sc (.lst f sh (dgL t)))],[]):=by
 obtain⟨k,rfl⟩:=wA h
 have hL:=dgL_length t
 have st:=fun i hi=>@zwh gl _ (k+8) (by omega) f sh t d i hi hl ha hd hs
 simp only[L72,m147]at st
 rw[za7 (fd:=zxy) rfl]
 simp(disch:=apply zq;omega) only[go_sem,simprocAttr,↓Nat.reduceEqDiff,xx,zxy,m147,hL]
 rw[zag (S72 520 f sh t d) t.length (by unfold LF;omega)]
 . rw[S72,wC,wL,show(t.length:Int)-1-(t.length:Int)=-1 by omega]
   simp(disch:=apply zq;omega) only[go_sem,simprocAttr,↓Nat.reduceEqDiff,xx,hL]
 . rw[S72,wI,wM,show bk [] d=d from rfl,show(t.length:Int)-1-((0:Nat):Int)=(t.length:Int)-1 by omega]
   simp(disch:=apply zq;omega) only[go_sem,simprocAttr,↓Nat.reduceEqDiff,xx]
 . exact st
 . rw[S72,wC,wL,show(t.length:Int)-1-(t.length:Int)=-1 by omega]
   simp(disch:=apply zq;omega) only[go_sem,simprocAttr,↓Nat.reduceEqDiff,xx,hL]
end
end Go.Proofs.S44.M
namespace Go.Proofs.S44.M
open Go Go.Ev Go.Proofs Go.Mk
open Go.Proofs.S44.H (GlK GlR)
variable {gl :Gl} {n:Nat}
def topV (t:List Dg):Dg:=if t=[]then em else bk t.dropLast (t.getLastD z16)
theorem zk8 {t:List Dg}(h:t≠[]):topV t=bk t.dropLast (t.getLastD z16):=by rw[topV,if_neg h]
section
variable [Nonempty (GlK gl)]
theorem top_nil (h:12<=n){z:Int}{f:Bool}{sh:Sh}(hz:-9223372036854775808<=z/\z<=9223372036854775807)(hF:Form z []) :
  call gl tab n 60 [pkAV z f sh []] []=some (.tup [bAV em,i64 0],[],[]):=by
 obtain⟨d,rfl⟩:=wA h
 have c:=@ztk gl (d+11) (by omega) z f sh [] (by simp) hz
 rw[decide_eq_true hF]at c
 have e:=@zpz gl (d+11) _ (by omega)
 have e1:=zka
 have e2:=H.bytes_all em
 generalize em=q at *
 replace c:call gl tab (d+11) 102 [.agg [i64 z,.lst f sh []]] []=some (.bool true,[],[]):=c
 show call gl tab (d+12) 60 [.agg [i64 z,.lst f sh []]] []=_
 rw[zad (fd:=fd60) rfl]
 simp(disch:=apply zq;omega) only[go_sem,simprocAttr,↓Nat.reduceEqDiff,xx,fd60,m60,↓out16_eq,H.out16_len,H.out16_all,H.out16_pl,c,e,e1,e2]
theorem top_ok (h:14<=n){z:Int}{f:Bool}{t:List Dg}(hl:t.length<=1000000)(ha:All16 t)(ht:t≠[])(hz:-9223372036854775808<=z/\z<=9223372036854775807)(hF:Form z t) :
  call gl tab n 60 [pkAV z f sB t] []=some (.tup [bAV (topV t),i64 0],[],[]):=by
 obtain⟨d,rfl⟩:=wA h
 have c:=@ztk gl (d+13) (by omega) z f sB t hl hz
 rw[decide_eq_true hF]at c
 rw[zk8 ht]
 have h1:=List.length_pos_iff.2 ht
 have hL:=dgL_length t
 have hD:=zkc t
 have hA:=dgL_at (l:=t) (i:=t.length-1) (by omega)
 have q1:=zj8 ha
 rw[zh0 z16 ht]at hA
 have q2:=H.bytes_all (t.getLastD z16)
 have e1:((t.length:Int)-1)=((t.length-1:Nat):Int):=by omega
 have b1:=fun f'=>@zmw gl (d+13) (by omega) f' sB t.dropLast
 have b2:=fun f'=>@z29 gl (d+13) _ (by omega) f' sB t.dropLast (t.getLastD z16) (by rw[List.length_dropLast];omega) ha.dropLast q1 (Or.inr rfl)
 have b3:=zmv t.dropLast q1
 have b4:=H.bytes_all (bk t.dropLast (t.getLastD z16))
 generalize bk t.dropLast (t.getLastD z16)=q at *
 generalize t.getLastD z16=r at *
 rw[zad (fd:=fd60) rfl]
 simp(maxSteps:=1000000) (disch:=apply zq;omega) only[go_sem,simprocAttr,↓Nat.reduceEqDiff,xx,fd60,m60,↓out16_eq,H.out16_len,H.out16_all,H.out16_pl,c,hL,hD,hA,q1,q2,e1,b1,b2,b3,b4,zcb]
end
end Go.Proofs.S44.M
namespace Go.Proofs.S44.M
open Go Go.Ev Go.Proofs Go.Mk
open Go.Proofs.S44.H (GlK GlR)
variable {gl :Gl} {n:Nat}
theorem zuu :∀(c x:Nat),x<=c->pcn x=0->x=0
 | 0,x,h,_=>by omega
 | c+1,x,h,h0=>by
   have h1:=pcn_two x
   have:=zuu c (x/2) (by omega) (by omega)
   omega
theorem z5k {z:Int}(h:Form z []):z=0:=by
 have h1:=zuu _ z.toNat (wE _) (by have:=h.2.2;simp at this;omega)
 have:=h.1
 omega
section
variable [Nonempty (GlR gl)]
end
end Go.Proofs.S44.M
