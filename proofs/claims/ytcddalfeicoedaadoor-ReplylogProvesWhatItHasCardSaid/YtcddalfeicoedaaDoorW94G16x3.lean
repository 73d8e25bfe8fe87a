/-
  Chapter 3: the zeros at a number's end. No condition.
-/
import Derived.Test.YtcddalfeicoedaaDoorW94G15x3
set_option linter.all false
open Nat renaming exists_eq_add_of_le'->wA,sub_self->wB,mod_eq_of_lt->wC,testBit_two_pow_mul_add->wD,pow_succ->wE,two_pow_pos->wF,sub_zero->wG,le_refl->wH
open BitVec renaming toNat_ofNat->wI,toNat_not->wJ
open List renaming drop_zero->wK,drop_length->wL
namespace Go.Proofs.S94.M
open Go Go.Ev Go.Proofs Go.Mk
open Go.Proofs.S94.H (GlK GlR)
variable {gl :Gl} {n:Nat}
def dbl :List UInt8:=[0,1,56,2,57,49,28,3,61,58,42,50,38,29,17,4,62,47,59,36,45,43,51,22,53,39,33,30,24,18,12,5,63,55,48,27,60,41,37,16,46,35,44,21,52,32,23,11,54,26,40,15,34,20,31,10,25,14,19,9,13,8,7,6]
structure GlB (gl:Gl):Prop where
 b:gl.tbl 1=some (.ar 64 .sc,.agg (zab dbl))
theorem glB {gl:Gl}[h:Nonempty (GlB gl)]:gl.tbl 1=some (.ar 64 .sc,.agg (zab dbl)):=h.elim fun h=>h.b
theorem zn6 :∀(c s:Nat),s<=c->∃q,s=2^(tr1 s+1)*q+(2^tr1 s-1)
 | c,s,h=>by
   by_cases h1:s%2=1
   . match c,h with
     | 0,h=>omega
     | c+1,h =>
       obtain⟨q,hq⟩:=zn6 c (s/2) (by omega)
       refine⟨q,?_⟩
       rw[zx9 h1]
       have hp:=wF (tr1 (s/2))
       have e1:2^(tr1 (s/2)+1+1)*q=2*(2^(tr1 (s/2)+1)*q):=by rw[wE _ (tr1 (s/2)+1),Nat.mul_comm _ 2,Nat.mul_assoc]
       have e2:2^(tr1 (s/2)+1)=2*2^tr1 (s/2):=by rw[wE];omega
       rw[e1]
       generalize 2^(tr1 (s/2)+1)*q=u at *
       omega
   . refine⟨s/2,?_⟩
     rw[zp9 (by omega)]
     simp only[Nat.zero_add,Nat.pow_one,Nat.pow_zero]
     omega
theorem z82 {s t q:Nat}(hs:s=2^(t+1)*q+(2^t-1))(hlt:s<2^63)(ht:t<64) :
  (~~~ (BitVec.ofNat 64 s))&&&(BitVec.ofNat 64 (s+1))=BitVec.ofNat 64 (2^t):=by
 have hp:=wF t
 have e2:2^(t+1)=2*2^t:=by rw[wE];omega
 have hs1:s+1=2^(t+1)*q+2^t:=by omega
 refine BitVec.eq_of_getLsbD_eq fun i hi=> ?_
 simp only[BitVec.getLsbD_and,BitVec.getLsbD_not,BitVec.getLsbD_ofNat,hi,decide_true,Bool.true_and]
 rw[hs1,wD _ (show 2^t<2^(t+1) by omega),hs,wD _ (show 2^t-1<2^(t+1) by omega),Nat.testBit_two_pow_sub_one,Nat.testBit_two_pow]
 by_cases h1:i<t+1
 . rw[if_pos h1,if_pos h1]
   by_cases h2:i=t
   . subst h2;simp
   . have h3:i<t:=by omega
     have h4:¬t=i:=by omega
     simp[h3,h4]
 . rw[if_neg h1,if_neg h1]
   have h4:¬t=i:=by omega
   simp[h4]
theorem db_k :∀t:Fin 64,dbl[((BitVec.ofNat 64 (2^t.val)*285870213051353865#64)>>>(58:Nat)).toNat]? =some (UInt8.ofNat t.val)/\((BitVec.ofNat 64 (2^t.val)*285870213051353865#64)>>>(58:Nat)).toNat<64:=by decide +kernel
theorem u8_t :∀t:Fin 64,(UInt8.ofNat t.val).toNat=t.val:=by decide +kernel
theorem qhb {t:Nat}(h:t<64):∃k,((BitVec.ofNat 64 (2^t)*285870213051353865#64)>>>(58:Nat)).toNat=k/\k<64/\(zab dbl)[k]? =some (.int .u8 (t:Int)):=by
 obtain⟨h1,h2⟩:=db_k ⟨t,h⟩
 have h3:=u8_t ⟨t,h⟩
 simp only at h1 h2 h3
 refine⟨_,rfl,h2,?_⟩
 rw[zab,List.getElem?_map,h1,Option.map_some,h3]
theorem z8n {s:Nat}(hs:s<=1099511627776):BitVec.ofInt 64 (0-((~~~ (BitVec.ofNat 64 s)).toNat:Int))=BitVec.ofNat 64 (s+1):=by
 have hx:(~~~ (BitVec.ofNat 64 s)).toNat=18446744073709551615-s:=by
  rw[wJ,wI,wC (by omega)]
 apply BitVec.eq_of_toNat_eq
 rw[BitVec.toNat_ofInt,wI,hx]
 omega
theorem qbf {s:Nat}(hs:s<=1099511627776):tr1 s<64:=by
 obtain⟨q,hq⟩:=zn6 s s (wH _)
 have h1:2^tr1 s<=s+1:=by
  generalize 2^(tr1 s+1)*q=u at *
  omega
 have h2:2^tr1 s<2^64:=by omega
 exact(Nat.pow_lt_pow_iff_right (by omega)).1 h2
section
variable [Nonempty (GlB gl)]
theorem zvx (h:1<=n){s:Nat}(hs:s<=1099511627776):call gl tab n 72 [.int .u64 ((~~~ (BitVec.ofNat 64 s)).toNat:Int)] []=some (i64 (tr1 s),[],[]):=by
 obtain⟨d,rfl⟩:=wA h
 obtain⟨q,hq⟩:=zn6 s s (wH _)
 have ht:=qbf hs
 have hx:(~~~ (BitVec.ofNat 64 s)).toNat=18446744073709551615-s:=by
  rw[wJ,wI,wC (by omega)]
 have h0:(((~~~ (BitVec.ofNat 64 s)).toNat:Int)==0)=false:=by rw[beq_eq_false_iff_ne,hx];omega
 have h1:=z8n hs
 have h2:=z82 hq (by omega) ht
 obtain⟨k,h3,h4,h5⟩:=qhb ht
 clear hx hq
 generalize tr1 s=t at *
 generalize ~~~ (BitVec.ofNat 64 s)=x at *
 generalize BitVec.ofNat 64 (s+1)=y at *
 generalize BitVec.ofNat 64 (2^t)=z at *
 have hb:=zac dbl
 rw[zae (fd:=fd72) rfl]
 simp(disch:=apply zq;omega) only[go_sem,simprocAttr,↓Nat.reduceEqDiff,xx,fd72,m72,glB,h0,h1,h2,h3,h5]
end
end Go.Proofs.S94.M
namespace Go.Proofs.S94.M
open Go Go.Ev Go.Proofs Go.Mk
open Go.Proofs.S94.H (GlK GlR)
variable {gl :Gl} {n:Nat}
theorem z23 [Nonempty (GlB gl)](h:2<=n){s:Nat}(hs:s<=1099511627776):call gl tab n 44 [.int .u64 ((~~~ (BitVec.ofNat 64 s)).toNat:Int)] []=some (i64 (tr1 s),[],[]):=by
 obtain⟨d,rfl⟩:=wA h
 have c:=@zvx gl (d+1) _ (by omega) s hs
 generalize ~~~ (BitVec.ofNat 64 s)=x at *
 generalize tr1 s=t at *
 rw[zae (fd:=fd44) rfl]
 simp(disch:=apply zq;omega) only[go_sem,simprocAttr,↓Nat.reduceEqDiff,xx,fd44,m44,c]
abbrev pkAV (z:Int)(f:Bool)(sh:Sh)(t:List Dg):AV:=.agg [i64 z,.lst f sh (dgL t)]
def Form (z:Int)(t:List Dg):Prop:=0<=z/\z<=1099511627776/\t.length=pcn z.toNat
instance (z :Int) (t:List Dg):Decidable (Form z t):=by unfold Form;infer_instance
theorem z1b (h:3<=n){z:Int}{f:Bool}{sh:Sh}{t:List Dg}(hl:t.length<=1000000)(hz:-9223372036854775808<=z/\z<=9223372036854775807):call gl tab n 43 [pkAV z f sh t] []=some (.bool (decide (Form z t)),[],[]):=by
 obtain⟨d,rfl⟩:=wA h
 have hL:=dgL_length t
 rw[zae (fd:=fd43) rfl]
 by_cases h1:0<=z
 . by_cases h2:z<=1099511627776
   . obtain⟨s,rfl⟩:∃s:Nat,z=s:=⟨z.toNat,by omega⟩
     have c:=@z38 gl (d+2) (by omega) s (by omega)
     have e:(BitVec.ofNat 64 s).toNat=s:=by rw[wI,wC (by omega)]
     have hF:decide (Form s t)=decide (t.length=pcn s):=decide_eq_decide.2 ⟨fun h=>by have:=h.2.2;simpa using this,fun h=>⟨h1,h2,by simpa using h⟩⟩
     rw[hF]
     generalize pcn s=y at *
     by_cases h3:t.length=y
     . subst h3
       simp(disch:=apply zq;omega) only[go_sem,simprocAttr,↓Nat.reduceEqDiff,xx,fd43,m43,hL,c,e]
     . have h3':¬(t.length:Int)=(y:Int):=by omega
       simp(disch:=apply zq;omega) only[go_sem,simprocAttr,↓Nat.reduceEqDiff,xx,fd43,m43,hL,c,e,h3]
   . rw[decide_eq_false (fun h=>h2 h.2.1)]
     simp(disch:=apply zq;omega) only[go_sem,simprocAttr,↓Nat.reduceEqDiff,xx,fd43,m43,hL]
 . rw[decide_eq_false (fun h=>h1 h.1)]
   simp(disch:=apply zq;omega) only[go_sem,simprocAttr,↓Nat.reduceEqDiff,xx,fd43,m43,hL]
end Go.Proofs.S94.M
namespace Go.Proofs.S94.M
open Go Go.Ev Go.Proofs Go.Mk
open Go.Proofs.S94.H (GlK GlR)
variable {gl :Gl} {n:Nat}
def bk (t:List Dg)(d:Dg):Dg:=t.foldr nd d
theorem zrw (t:List Dg){d:Dg}(h:d.length=16):(bk t d).length=16:=by
 cases t with
 | nil=>exact h
 | cons x l=>exact zd9 _ _
theorem z2k {t:List Dg}{d:Dg}{i:Nat}(h:i<t.length):bk (t.drop i) d=nd (dgA t i) (bk (t.drop (i+1)) d):=by
 rw[List.drop_eq_getElem_cons h]
 show nd t[i] (bk (t.drop (i+1)) d)=_
 rw[dgA,List.getD_eq_getElem?_getD,List.getElem?_eq_getElem h,Option.getD_some]
abbrev LP (r:Nat):OB:=.lp r [.ptr 100001 []] .ready
abbrev cD (d:Dg):OB:=.fix (.ar 16 .sc) (bAV d)
section
variable [Nonempty (GlK gl)]
theorem z74 (h:8<=n)(i:Int){x d:Dg}(hx:x.length=16)(hd:d.length=16) :
  call gl tab n 1000250 [i64 i,bAV x] [(100000,LP 250),(100001,cD d)]=some (.bool true,[(100000,LP 250),(100001,cD (nd x d))],[]):=by
 obtain⟨k,rfl⟩:=wA h
 have e:=@zgn gl (k+7) _ (by omega) _ _ hx hd
 have e3:=zd9 x d
 have e4:=H.bytes_all (nd x d)
 have x2:=H.bytes_all x
 have x1:=b16t hx
 generalize nd x d=q at *
 rw[zkq (fd:=zu8) rfl rfl]
 simp(disch:=apply zq;omega) only[go_sem,simprocAttr,↓Nat.reduceEqDiff,xx,zu8,z8z,z8x,↓out16_eq,H.out16_len,H.out16_all,H.out16_pl,hx,x1,x2,e,e3,e4]
theorem z75 (h:8<=n)(i:Int){x d:Dg}(hx:x.length=16)(hd:d.length=16) :
  call gl tab n 1000210 [i64 i,bAV x] [(100000,LP 210),(100001,cD d)]=some (.bool true,[(100000,LP 210),(100001,cD (nd x d))],[]):=by
 obtain⟨k,rfl⟩:=wA h
 have e:=@zgn gl (k+7) _ (by omega) _ _ hx hd
 have e3:=zd9 x d
 have e4:=H.bytes_all (nd x d)
 have x2:=H.bytes_all x
 have x1:=b16t hx
 generalize nd x d=q at *
 rw[zkq (fd:=zu9) rfl rfl]
 simp(disch:=apply zq;omega) only[go_sem,simprocAttr,↓Nat.reduceEqDiff,xx,zu9,z80,z8y,↓out16_eq,H.out16_len,H.out16_all,H.out16_pl,hx,x1,x2,e,e3,e4]
end
theorem zmg (h:1<=n){f:Bool}{sh:Sh}{t:List Dg}:call gl tab n 45 [.lst f sh (dgL t)] []=some (.fn 73 [.ptr 20000 []],[],[.fix .sc (.lst f sh (dgL t))]):=by
 obtain⟨d,rfl⟩:=wA h
 rw[zat (fd:=fd45) rfl]
 simp(disch:=apply zq;omega) only[go_sem,simprocAttr,↓Nat.reduceEqDiff,xx,fd45,m45]
def L72 :MC:=match m73 with| .seq _ (.block _ (.loop _ b))=>b|_=>.skip
def S72 (r:Nat)(f:Bool)(sh:Sh)(t:List Dg)(d:Dg)(i:Nat):St :=
 ⟨[.set 3 (i64 ((t.length:Int)-1-i)),.set 1 (.ptr 100002 []),.set 0 (.yld 100000)],[(100002,.fix .sc (.lst f sh (dgL t))),(100001,cD (bk (t.drop (t.length-i)) d)),(100000,LP r)]⟩
section
variable [Nonempty (GlK gl)]
theorem zvy {k:Nat}(hk:8<=k){f:Bool}{sh:Sh}{t:List Dg}{d:Dg}{i:Nat}(hi:i<t.length)(hl:t.length<=1000000)(ha:All16 t)(hd:d.length=16)(hs:Sd t sh sB) :
  zb1 [.slot 0,.slot 1,.slot 3] (evC gl (call gl tab k) L72 (S72 250 f sh t d i))=some (S72 250 f sh t d (i+1)):=by
 obtain rfl:sh=sB:=by rcases hs with hs|hs;subst hs;simp at hi;exact hs
 have hL:=dgL_length t
 have hA:=dgL_at (l:=t) (i:=t.length-1-i) (by omega)
 have q1:=ha.at (i:=t.length-1-i) (by omega)
 have hb:=@z2k t d (t.length-1-i) (by omega)
 have hq:=zrw (t.drop (t.length-1-i+1)) hd
 have q2:=H.bytes_all (dgA t (t.length-1-i))
 have c:=@z74 gl k _ hk ((t.length-1-i:Nat):Int) _ _ q1 hq
 rw[<-hb]at c
 rw[show t.length-1-i+1=t.length-i by omega]at c
 rw[S72,S72,show t.length-(i+1)=t.length-1-i by omega]
 have e1:(t.length:Int)-1-(i:Int)=((t.length-1-i:Nat):Int):=by omega
 have e2:(t.length:Int)-1-((i+1:Nat):Int)=((t.length-1-i:Nat):Int)-1:=by omega
 rw[e1,e2]
 clear hb hq e1 e2
 generalize bk (t.drop (t.length-i)) d=d1 at *
 generalize bk (t.drop (t.length-1-i)) d=d2 at *
 generalize dgA t (t.length-1-i)=x at *
 have hj:t.length-1-i<t.length:=by omega
 generalize t.length-1-i=j at *
 simp(disch:=apply zq;omega) only[go_sem,simprocAttr,↓Nat.reduceEqDiff,xx,L72,m73,hL,hA,q1,q2,c]
theorem z2s (h:9<=n){f:Bool}{sh:Sh}{t:List Dg}{d:Dg}(hl:t.length<=1000000)(ha:All16 t)(hd:d.length=16)(hs:Sd t sh sB) :
  call gl tab n 73 [.yld 100000,.ptr 100002 []] [(100000,LP 250),(100001,cD d),(100002,.fix .sc (.lst f sh (dgL t)))]=some (.tup [],[(100000,LP 250),(100001,cD (bk t d)),(100002,.fix .sc (.lst f sh (dgL t)))],[]):=by
 obtain⟨k,rfl⟩:=wA h
 have hL:=dgL_length t
 have st:=fun i hi=>@zvy gl _ (k+8) (by omega) f sh t d i hi hl ha hd hs
 simp only[L72,m73]at st
 rw[zat (fd:=fd73) rfl]
 simp(disch:=apply zq;omega) only[go_sem,simprocAttr,↓Nat.reduceEqDiff,xx,fd73,m73,hL]
 rw[zao (S72 250 f sh t d) t.length (by unfold LF;omega)]
 . rw[S72,wB,wK,show(t.length:Int)-1-(t.length:Int)=-1 by omega]
   simp(disch:=apply zq;omega) only[go_sem,simprocAttr,↓Nat.reduceEqDiff,xx,hL]
 . rw[S72,wG,wL,show bk [] d=d from rfl,show(t.length:Int)-1-((0:Nat):Int)=(t.length:Int)-1 by omega]
   simp(disch:=apply zq;omega) only[go_sem,simprocAttr,↓Nat.reduceEqDiff,xx]
 . exact st
 . rw[S72,wB,wK,show(t.length:Int)-1-(t.length:Int)=-1 by omega]
   simp(disch:=apply zq;omega) only[go_sem,simprocAttr,↓Nat.reduceEqDiff,xx,hL]
end
section
variable [Nonempty (GlK gl)]
theorem zvz {k:Nat}(hk:8<=k){f:Bool}{sh:Sh}{t:List Dg}{d:Dg}{i:Nat}(hi:i<t.length)(hl:t.length<=1000000)(ha:All16 t)(hd:d.length=16)(hs:Sd t sh sB) :
  zb1 [.slot 0,.slot 1,.slot 3] (evC gl (call gl tab k) L72 (S72 210 f sh t d i))=some (S72 210 f sh t d (i+1)):=by
 obtain rfl:sh=sB:=by rcases hs with hs|hs;subst hs;simp at hi;exact hs
 have hL:=dgL_length t
 have hA:=dgL_at (l:=t) (i:=t.length-1-i) (by omega)
 have q1:=ha.at (i:=t.length-1-i) (by omega)
 have hb:=@z2k t d (t.length-1-i) (by omega)
 have hq:=zrw (t.drop (t.length-1-i+1)) hd
 have q2:=H.bytes_all (dgA t (t.length-1-i))
 have c:=@z75 gl k _ hk ((t.length-1-i:Nat):Int) _ _ q1 hq
 rw[<-hb]at c
 rw[show t.length-1-i+1=t.length-i by omega]at c
 rw[S72,S72,show t.length-(i+1)=t.length-1-i by omega]
 have e1:(t.length:Int)-1-(i:Int)=((t.length-1-i:Nat):Int):=by omega
 have e2:(t.length:Int)-1-((i+1:Nat):Int)=((t.length-1-i:Nat):Int)-1:=by omega
 rw[e1,e2]
 clear hb hq e1 e2
 generalize bk (t.drop (t.length-i)) d=d1 at *
 generalize bk (t.drop (t.length-1-i)) d=d2 at *
 generalize dgA t (t.length-1-i)=x at *
 have hj:t.length-1-i<t.length:=by omega
 generalize t.length-1-i=j at *
 simp(disch:=apply zq;omega) only[go_sem,simprocAttr,↓Nat.reduceEqDiff,xx,L72,m73,hL,hA,q1,q2,c]
theorem z2t (h:9<=n){f:Bool}{sh:Sh}{t:List Dg}{d:Dg}(hl:t.length<=1000000)(ha:All16 t)(hd:d.length=16)(hs:Sd t sh sB) :
  call gl tab n 73 [.yld 100000,.ptr 100002 []] [(100000,LP 210),(100001,cD d),(100002,.fix .sc (.lst f sh (dgL t)))]=some (.tup [],[(100000,LP 210),(100001,cD (bk t d)),(100002,.fix .sc (.lst f sh (dgL t)))],[]):=by
 obtain⟨k,rfl⟩:=wA h
 have hL:=dgL_length t
 have st:=fun i hi=>@zvz gl _ (k+8) (by omega) f sh t d i hi hl ha hd hs
 simp only[L72,m73]at st
 rw[zat (fd:=fd73) rfl]
 simp(disch:=apply zq;omega) only[go_sem,simprocAttr,↓Nat.reduceEqDiff,xx,fd73,m73,hL]
 rw[zao (S72 210 f sh t d) t.length (by unfold LF;omega)]
 . rw[S72,wB,wK,show(t.length:Int)-1-(t.length:Int)=-1 by omega]
   simp(disch:=apply zq;omega) only[go_sem,simprocAttr,↓Nat.reduceEqDiff,xx,hL]
 . rw[S72,wG,wL,show bk [] d=d from rfl,show(t.length:Int)-1-((0:Nat):Int)=(t.length:Int)-1 by omega]
   simp(disch:=apply zq;omega) only[go_sem,simprocAttr,↓Nat.reduceEqDiff,xx]
 . exact st
 . rw[S72,wB,wK,show(t.length:Int)-1-(t.length:Int)=-1 by omega]
   simp(disch:=apply zq;omega) only[go_sem,simprocAttr,↓Nat.reduceEqDiff,xx,hL]
end
end Go.Proofs.S94.M
namespace Go.Proofs.S94.M
open Go Go.Ev Go.Proofs Go.Mk
open Go.Proofs.S94.H (GlK GlR)
variable {gl :Gl} {n:Nat}
def topV (t:List Dg):Dg:=if t=[]then em else bk t.dropLast (t.getLastD z16)
theorem zkt {t:List Dg}(h:t≠[]):topV t=bk t.dropLast (t.getLastD z16):=by rw[topV,if_neg h]
section
variable [Nonempty (GlK gl)]
theorem top_ok (h:14<=n){z:Int}{f:Bool}{t:List Dg}(hl:t.length<=1000000)(ha:All16 t)(ht:t≠[])(hz:-9223372036854775808<=z/\z<=9223372036854775807)(hF:Form z t) :
  call gl tab n 25 [pkAV z f sB t] []=some (.tup [bAV (topV t),i64 0],[],[]):=by
 obtain⟨d,rfl⟩:=wA h
 have c:=@z1b gl (d+13) (by omega) z f sB t hl hz
 rw[decide_eq_true hF]at c
 rw[zkt ht]
 have h1:=List.length_pos_iff.2 ht
 have hL:=dgL_length t
 have hD:=zjx t
 have hA:=dgL_at (l:=t) (i:=t.length-1) (by omega)
 have q1:=zc5 ha
 rw[zhv z16 ht]at hA
 have q2:=H.bytes_all (t.getLastD z16)
 have e1:((t.length:Int)-1)=((t.length-1:Nat):Int):=by omega
 have b1:=fun f'=>@zmg gl (d+13) (by omega) f' sB t.dropLast
 have b2:=fun f'=>@z2s gl (d+13) _ (by omega) f' sB t.dropLast (t.getLastD z16) (by rw[List.length_dropLast];omega) ha.dropLast q1 (Or.inr rfl)
 have b3:=zrw t.dropLast q1
 have b4:=H.bytes_all (bk t.dropLast (t.getLastD z16))
 generalize bk t.dropLast (t.getLastD z16)=q at *
 generalize t.getLastD z16=r at *
 rw[zae (fd:=fd25) rfl]
 simp(maxSteps:=1000000) (disch:=apply zq;omega) only[go_sem,simprocAttr,↓Nat.reduceEqDiff,xx,fd25,m25,↓out16_eq,H.out16_len,H.out16_all,H.out16_pl,c,hL,hD,hA,q1,q2,e1,b1,b2,b3,b4,zc8]
end
end Go.Proofs.S94.M
namespace Go.Proofs.S94.M
open Go Go.Ev Go.Proofs Go.Mk
open Go.Proofs.S94.H (GlK GlR)
variable {gl :Gl} {n:Nat}
section
variable [Nonempty (GlR gl)]
end
end Go.Proofs.S94.M
