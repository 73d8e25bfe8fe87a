/-
  Chapter 3: where a list is parted. No condition.
-/
import Derived.Test.YtcddalfeicoedaaGreatDoorW44G12x3
set_option linter.all false
open Nat renaming exists_eq_add_of_le'->wA,le_refl->wB,pow_add->wC,log2_lt->wD
open Int renaming zero_add->wE
open List renaming length_take->wF,length_drop->wG,length_singleton->wH,length_append->wI,length_eq_zero_iff->wJ,getD_cons_zero->wK,map_cons->wL,map_nil->wM
namespace Go.Proofs.S44.M
open Go Go.Ev Go.Proofs Go.Mk
variable {gl :Gl} {n:Nat}
def ln (x:Nat):Nat:=if x=0 then 0 else x.log2+1
theorem zl4 {x k:Nat}(h:2^k<=x):ln x=k+ln (x/2^k):=by
 have hp:=Nat.two_pow_pos k
 have h1:x/2^k≠0:=by have:=Nat.div_pos h hp;omega
 unfold ln
 rw[if_neg (by omega),if_neg h1]
 have e:x.log2=(x/2^k).log2+k:=by
  rw[Nat.log2_eq_iff (by omega)]
  have a1:=Nat.log2_self_le h1
  have a2:=@Nat.lt_log2_self (x/2^k)
  constructor
  . rw[wC]
    exact(Nat.le_div_iff_mul_le hp).1 a1
  . rw[show(x/2^k).log2+k+1=(x/2^k).log2+1+k by omega,wC]
    exact(Nat.div_lt_iff_lt_mul hp).1 a2
 omega
def lenT :List UInt8:=[0,1,2,2,3,3,3,3,4,4,4,4,4,4,4,4,5,5,5,5,5,5,5,5,5,5,5,5,5,5,5,5,6,6,6,6,6,6,6,6,6,6,6,6,6,6,6,6,6,6,6,6,6,6,6,6,6,6,6,6,6,6,6,6,7,7,7,7,7,7,7,7,7,7,7,7,7,7,7,7,7,7,7,7,7,7,7,7,7,7,7,7,7,7,7,7,7,7,7,7,7,7,7,7,7,7,7,7,7,7,7,7,7,7,7,7,7,7,7,7,7,7,7,7,7,7,7,7,8,8,8,8,8,8,8,8,8,8,8,8,8,8,8,8,8,8,8,8,8,8,8,8,8,8,8,8,8,8,8,8,8,8,8,8,8,8,8,8,8,8,8,8,8,8,8,8,8,8,8,8,8,8,8,8,8,8,8,8,8,8,8,8,8,8,8,8,8,8,8,8,8,8,8,8,8,8,8,8,8,8,8,8,8,8,8,8,8,8,8,8,8,8,8,8,8,8,8,8,8,8,8,8,8,8,8,8,8,8,8,8,8,8,8,8,8,8,8,8,8,8,8,8,8,8,8,8]
theorem ze2 :([0,1,2,2,3,3,3,3,4,4,4,4,4,4,4,4,5,5,5,5,5,5,5,5,5,5,5,5,5,5,5,5,6,6,6,6,6,6,6,6,6,6,6,6,6,6,6,6,6,6,6,6,6,6,6,6,6,6,6,6,6,6,6,6,7,7,7,7,7,7,7,7,7,7,7,7,7,7,7,7,7,7,7,7,7,7,7,7,7,7,7,7,7,7,7,7,7,7,7,7,7,7,7,7,7,7,7,7,7,7,7,7,7,7,7,7,7,7,7,7,7,7,7,7,7,7,7,7,8,8,8,8,8,8,8,8,8,8,8,8,8,8,8,8,8,8,8,8,8,8,8,8,8,8,8,8,8,8,8,8,8,8,8,8,8,8,8,8,8,8,8,8,8,8,8,8,8,8,8,8,8,8,8,8,8,8,8,8,8,8,8,8,8,8,8,8,8,8,8,8,8,8,8,8,8,8,8,8,8,8,8,8,8,8,8,8,8,8,8,8,8,8,8,8,8,8,8,8,8,8,8,8,8,8,8,8,8,8,8,8,8,8,8,8,8,8,8,8,8,8,8,8,8,8,8,8]:List UInt8)=lenT:=rfl
theorem qbb :∀j:Fin 256,lenT[j.val]? =some (UInt8.ofNat (ln j.val))/\ln j.val<=8:=by decide +kernel
set_option maxRecDepth 20000 in
set_option maxHeartbeats 1000000 in
theorem z44 (h:1<=n)(x:BitVec 64):call gl tab n 166 [.int .u64 (x.toNat:Int)] []=some (i64 (ln x.toNat),[],[]):=by
 obtain⟨d,rfl⟩:=wA h
 have hx:=x.isLt
 have last:∀(y:BitVec 64),y.toNat<256->lenT[((y.setWidth 8).toNat)]? =some (UInt8.ofNat (ln y.toNat))/\(((UInt8.ofNat (ln y.toNat)).toNat:Nat):Int)=((ln y.toNat:Nat):Int)/\ln y.toNat<=8:=fun y hy=>by
  obtain⟨h1,h2⟩:=qbb ⟨y.toNat,hy⟩
  have e:(y.setWidth 8).toNat=y.toNat:=by rw[BitVec.toNat_setWidth];omega
  rw[e]
  refine⟨h1,?_,h2⟩
  rw[UInt8.toNat_ofNat']
  simp only at h2
  rw[Nat.mod_eq_of_lt (by omega)]
 have sh:∀(y:BitVec 64) (k:Nat),(y>>>k).toNat=y.toNat/2^k:=fun y k=>by rw[BitVec.toNat_ushiftRight,Nat.shiftRight_eq_div_pow]
 have cc:∀(a b c:Nat),a+b=c->x>>>a>>>b=x>>>c:=fun a b c e=>by rw[<-e,BitVec.shiftRight_add]
 have sh0:(x>>>(0:Nat)).toNat=x.toNat:=by simp
 rw[zad (fd:=zmo) rfl]
 by_cases h1:4294967296<=x.toNat
 . have s1:(x>>>(32:Nat)).toNat=x.toNat/2^32:=by rw[sh]
   have l1:=zl4 (x:=x.toNat) (k:=32) h1
   rw[<-s1]at l1
   by_cases h2:65536<=(x>>>(32:Nat)).toNat
   . have s2:(x>>>(48:Nat)).toNat=(x>>>(32:Nat)).toNat/2^16:=by rw[<-cc 32 16 48 rfl,sh]
     have l2:=zl4 (x:=(x>>>(32:Nat)).toNat) (k:=16) h2
     rw[<-s2]at l2
     by_cases h3:256<=(x>>>(48:Nat)).toNat
     . have s3:(x>>>(56:Nat)).toNat=(x>>>(48:Nat)).toNat/2^8:=by rw[<-cc 48 8 56 rfl,sh]
       have l3:=zl4 (x:=(x>>>(48:Nat)).toNat) (k:=8) h3
       rw[<-s3]at l3
       obtain⟨t1,t2,t3⟩:=last (x>>>(56:Nat)) (by omega)
       rw[l1,l2,l3]
       simp(disch:=apply zq;omega) only[go_sem,simprocAttr,↓Nat.reduceEqDiff,xx,zmo,m166,↓ze2,t1,t2,wE]
       refine congrArg (fun z:Int=>some (AV.int .i64 z,([]:List (Nat×OB)),[])) ?_
       omega
     . skip
       obtain⟨t1,t2,t3⟩:=last (x>>>(48:Nat)) (by omega)
       rw[l1,l2]
       simp(disch:=apply zq;omega) only[go_sem,simprocAttr,↓Nat.reduceEqDiff,xx,zmo,m166,↓ze2,t1,t2,wE]
       refine congrArg (fun z:Int=>some (AV.int .i64 z,([]:List (Nat×OB)),[])) ?_
       omega
   . skip
     by_cases h3:256<=(x>>>(32:Nat)).toNat
     . have s2:(x>>>(40:Nat)).toNat=(x>>>(32:Nat)).toNat/2^8:=by rw[<-cc 32 8 40 rfl,sh]
       have l2:=zl4 (x:=(x>>>(32:Nat)).toNat) (k:=8) h3
       rw[<-s2]at l2
       obtain⟨t1,t2,t3⟩:=last (x>>>(40:Nat)) (by omega)
       rw[l1,l2]
       simp(disch:=apply zq;omega) only[go_sem,simprocAttr,↓Nat.reduceEqDiff,xx,zmo,m166,↓ze2,t1,t2,wE]
       refine congrArg (fun z:Int=>some (AV.int .i64 z,([]:List (Nat×OB)),[])) ?_
       omega
     . skip
       obtain⟨t1,t2,t3⟩:=last (x>>>(32:Nat)) (by omega)
       rw[l1]
       simp(disch:=apply zq;omega) only[go_sem,simprocAttr,↓Nat.reduceEqDiff,xx,zmo,m166,↓ze2,t1,t2,wE]
 . skip
   by_cases h2:65536<=x.toNat
   . have s1:(x>>>(16:Nat)).toNat=x.toNat/2^16:=by rw[sh]
     have l1:=zl4 (x:=x.toNat) (k:=16) h2
     rw[<-s1]at l1
     by_cases h3:256<=(x>>>(16:Nat)).toNat
     . have s2:(x>>>(24:Nat)).toNat=(x>>>(16:Nat)).toNat/2^8:=by rw[<-cc 16 8 24 rfl,sh]
       have l2:=zl4 (x:=(x>>>(16:Nat)).toNat) (k:=8) h3
       rw[<-s2]at l2
       obtain⟨t1,t2,t3⟩:=last (x>>>(24:Nat)) (by omega)
       rw[l1,l2]
       simp(disch:=apply zq;omega) only[go_sem,simprocAttr,↓Nat.reduceEqDiff,xx,zmo,m166,↓ze2,t1,t2,wE]
       refine congrArg (fun z:Int=>some (AV.int .i64 z,([]:List (Nat×OB)),[])) ?_
       omega
     . skip
       obtain⟨t1,t2,t3⟩:=last (x>>>(16:Nat)) (by omega)
       rw[l1]
       simp(disch:=apply zq;omega) only[go_sem,simprocAttr,↓Nat.reduceEqDiff,xx,zmo,m166,↓ze2,t1,t2,wE]
   . skip
     by_cases h3:256<=x.toNat
     . have s1:(x>>>(8:Nat)).toNat=x.toNat/2^8:=by rw[sh]
       have l1:=zl4 (x:=x.toNat) (k:=8) h3
       rw[<-s1]at l1
       obtain⟨t1,t2,t3⟩:=last (x>>>(8:Nat)) (by omega)
       rw[l1]
       simp(disch:=apply zq;omega) only[go_sem,simprocAttr,↓Nat.reduceEqDiff,xx,zmo,m166,↓ze2,t1,t2,wE]
     . skip
       obtain⟨t1,t2,t3⟩:=last x (by omega)
       simp(disch:=apply zq;omega) only[go_sem,simprocAttr,↓Nat.reduceEqDiff,xx,zmo,m166,↓ze2,t1,t2,wE]
theorem qe4 (h:2<=n)(x:BitVec 64):call gl tab n 148 [.int .u64 (x.toNat:Int)] []=some (i64 (ln x.toNat),[],[]):=by
 obtain⟨d,rfl⟩:=wA h
 have c:=@z44 gl (d+1) (by omega) x
 rw[zad (fd:=z58) rfl]
 simp(disch:=apply zq;omega) only[go_sem,simprocAttr,↓Nat.reduceEqDiff,xx,z58,m148,c]
theorem zoq (h:3<=n){m:Nat}(h2:2<=m)(hm:m<=4611686018427387904):call gl tab n 108 [i64 m] []=some (i64 (spl m),[],[]):=by
 obtain⟨d,rfl⟩:=wA h
 have e:(BitVec.ofInt 64 ((m:Int)-1)).toNat=m-1:=by
  rw[show((m:Int)-1)=((m-1:Nat):Int) by omega,BitVec.ofInt_natCast,BitVec.toNat_ofNat];omega
 have c:=@qe4 gl (d+2) (by omega) (BitVec.ofInt 64 ((m:Int)-1))
 have hl:ln (BitVec.ofInt 64 ((m:Int)-1)).toNat=(m-1).log2+1:=by rw[e,ln,if_neg (by omega)]
 rw[hl]at c
 have hlt:(m-1).log2<62:=(wD (by omega)).2 (by omega)
 have hs:=zfi h2
 have hsl:zbz .shl .i64 1 ((((m-1).log2:Nat):Int)+1-1)=some (i64 (spl m)):=by
  unfold zbz
  rw[if_neg (by omega),show((((m-1).log2:Nat):Int)+1-1).toNat=(m-1).log2 by omega,show min (m-1).log2 IntKind.i64.bits=(m-1).log2 from Nat.min_eq_left (by show _<=64;omega)]
  show some (AV.int .i64 (IntKind.i64.wrap (1*2^(m-1).log2)))=_
  have e2:(1:Int)*2^(m-1).log2=((spl m:Nat):Int):=by unfold spl;simp
  rw[e2,zax (by omega) (by omega)]
 rw[zad (fd:=z6r) rfl]
 simp(disch:=apply zq;omega) only[go_sem,simprocAttr,↓Nat.reduceEqDiff,xx,z6r,m108,c,hsl]
end Go.Proofs.S44.M
namespace Go.Proofs.S44.M
open Go Go.Ev Go.Proofs Go.Mk
open Go.Proofs.S44.H (GlK GlR)
variable {gl :Gl} {n:Nat}
def Sd {α:Type}(l:List α)(m s:Sh):Prop:=l=[]\/m=s
theorem zcb :sB.size=16:=rfl
def S40 (m:Nat)(i:Nat):St:=⟨[.set 3 (i64 ((2^i:Nat):Int)),.set 0 (i64 m)],[]⟩
theorem zzn (h:1<=n){m:Nat}(h2:2<=m)(hm:m<=4611686018427387904):call gl tab n 100 [i64 m] []=some (i64 (spl m),[],[]):=by
 obtain⟨d,rfl⟩:=wA h
 have hk:(m-1).log2<62:=(wD (by omega)).2 (by omega)
 have hlo:=zfi h2
 have hge:=@z7y m
 rw[zad (fd:=z6x) rfl]
 simp(disch:=apply zq;omega) only[go_sem,simprocAttr,↓Nat.reduceEqDiff,xx,z6x,m100]
 rw[zag (S40 m) (m-1).log2 (by unfold LF;omega)]
 . rw[S40,show(2:Nat)^(m-1).log2=spl m from rfl]
   generalize spl m=x at *
   simp(disch:=apply zq;omega) only[go_sem,simprocAttr,↓Nat.reduceEqDiff,xx]
 . rw[S40];simp(disch:=apply zq;omega) only[go_sem,simprocAttr,↓Nat.reduceEqDiff,xx]
 . intro i hi
   have h3:2^(i+1)<=spl m:=Nat.pow_le_pow_right (by omega) hi
   have h4:(2:Nat)^(i+1)=2*2^i:=by rw[Nat.pow_succ];omega
   rw[S40,S40,h4]
   generalize spl m=y at *
   generalize 2^i=x at *
   rw[show((2*x:Nat):Int)=2*(x:Int) by omega]
   simp(disch:=apply zq;omega) only[go_sem,simprocAttr,↓Nat.reduceEqDiff,xx]
 . rw[S40,show(2:Nat)^(m-1).log2=spl m from rfl]
   generalize spl m=x at *
   simp(disch:=apply zq;omega) only[go_sem,simprocAttr,↓Nat.reduceEqDiff,xx]
theorem rt_len :∀{l:List Dg},All16 l->(rt nd em l).length=16
 | [],_=>by rw[zlm];exact zka
 | [x],h=>by rw[zqr];exact h x (by simp)
 | x::y::l,h=>by rw[zqq (by simp)];exact zfm _ _
section
variable [Nonempty (GlK gl)]
theorem root_at :∀(c:Nat) {n:Nat} (l:List Dg) (f:Bool) (sh:Sh),l.length<=c->8+c<=n->All16 l->l.length<2^60->Sd l sh sB->call gl tab n 55 [.lst f sh (dgL l)] []=some (bAV (rt nd em l),[],[]):=by
 intro c
 induction c with
 | zero =>
   intro n l f sh hc h ha hl hs
   obtain⟨d,rfl⟩:∃d,n=d+1:=⟨n-1,by omega⟩
   obtain rfl:l=[]:=wJ.1 (by omega)
   have e:=@zpz gl d _ (by omega)
   have e1:=zka
   have e2:=H.bytes_all em
   rw[zlm]
   generalize em=q at *
   rw[zad (fd:=fd55) rfl]
   simp(disch:=apply zq;omega) only[go_sem,simprocAttr,↓Nat.reduceEqDiff,xx,fd55,m55,↓out16_eq,H.out16_len,H.out16_all,H.out16_pl,zea,e,e1,e2,H.noImms_bytesAV]
 | succ c ih =>
   intro n l f sh hc h ha hl hs
   obtain⟨d,rfl⟩:∃d,n=d+1:=⟨n-1,by omega⟩
   have hL:=dgL_length l
   have hT:=zh3 l
   match l,hs with
   | [],hs =>
     have e:=@zpz gl d _ (by omega)
     have e1:=zka
     have e2:=H.bytes_all em
     rw[zlm]
     generalize em=q at *
     rw[zad (fd:=fd55) rfl]
     simp(disch:=apply zq;omega) only[go_sem,simprocAttr,↓Nat.reduceEqDiff,xx,fd55,m55,↓out16_eq,H.out16_len,H.out16_all,H.out16_pl,zea,e,e1,e2,H.noImms_bytesAV]
   | [x],hs =>
     obtain rfl:sh=sB:=by rcases hs with hs|hs;cases hs;exact hs
     have e1:=ha.at (i:=0) (by simp)
     rw[zqr]
     have e2:=H.bytes_all x
     simp only[dgA,wK]at e1
     rw[zad (fd:=fd55) rfl]
     simp(disch:=apply zq;omega) only[go_sem,simprocAttr,↓Nat.reduceEqDiff,xx,fd55,m55,↓out16_eq,H.out16_len,H.out16_all,H.out16_pl,dgL,wL,wM,zcb,e1,e2,H.noImms_bytesAV]
   | x::y::l,hs =>
     obtain rfl:sh=sB:=by rcases hs with hs|hs;cases hs;exact hs
     have h2:2<=(x::y::l).length:=by simp
     rw[zqq h2]
     generalize (x::y::l)=l at *
     have hk:=zfi h2
     have hp:=ze7 l.length
     have k:=@zoq gl d (by omega) l.length h2 (by omega)
     have a:=fun f'=>@ih d (l.take (spl l.length)) f' sB (by rw[wF];omega) (by omega) (ha.take _) (by rw[wF];omega) (Or.inr rfl)
     have b:=fun f'=>@ih d (l.drop (spl l.length)) f' sB (by rw[wG];omega) (by omega) (ha.drop _) (by rw[wG];omega) (Or.inr rfl)
     have ra:(rt nd em (l.take (spl l.length))).length=16:=rt_len (ha.take _)
     have rb:(rt nd em (l.drop (spl l.length))).length=16:=rt_len (ha.drop _)
     have e:=@zl2 gl d _ (by omega) _ _ ra rb
     have e1:=zfm (rt nd em (l.take (spl l.length))) (rt nd em (l.drop (spl l.length)))
     have e2:=H.bytes_all (nd (rt nd em (l.take (spl l.length))) (rt nd em (l.drop (spl l.length))))
     generalize nd (rt nd em (l.take (spl l.length))) (rt nd em (l.drop (spl l.length)))=q at *
     generalize rt nd em (l.take (spl l.length))=qa at *
     generalize rt nd em (l.drop (spl l.length))=qb at *
     simp only[<-zdw]at a;simp only[<-zgc]at b
     generalize spl l.length=z at *
     generalize l.length=w at *
     rw[zad (fd:=fd55) rfl]
     simp(implicitDefEqProofs:=false) (disch:=apply zq;omega) only[go_sem,simprocAttr,↓Nat.reduceEqDiff,xx,fd55,m55,↓out16_eq,H.out16_len,H.out16_all,H.out16_pl,hL,hT,zcb,k,a,b,e,e1,e2,H.noImms_bytesAV]
end
section
variable [Nonempty (GlR gl)]
theorem rroot_at :∀(c:Nat) {n:Nat} (l:List Dg) (f:Bool) (sh:Sh),l.length<=c->8+c<=n->All16 l->l.length<2^60->Sd l sh sB->call gl tab n 51 [.lst f sh (dgL l)] []=some (bAV (rt nd em l),[],[]):=by
 intro c
 induction c with
 | zero =>
   intro n l f sh hc h ha hl hs
   obtain⟨d,rfl⟩:∃d,n=d+1:=⟨n-1,by omega⟩
   obtain rfl:l=[]:=wJ.1 (by omega)
   have e:=@zqw gl d _ (by omega)
   have e1:=zka
   have e2:=H.bytes_all em
   rw[zlm]
   generalize em=q at *
   rw[zad (fd:=fd51) rfl]
   simp(disch:=apply zq;omega) only[go_sem,simprocAttr,↓Nat.reduceEqDiff,xx,fd51,m51,↓out16_eq,H.out16_len,H.out16_all,H.out16_pl,zea,e,e1,e2,H.noImms_bytesAV]
 | succ c ih =>
   intro n l f sh hc h ha hl hs
   obtain⟨d,rfl⟩:∃d,n=d+1:=⟨n-1,by omega⟩
   have hL:=dgL_length l
   have hT:=zh3 l
   match l,hs with
   | [],hs =>
     have e:=@zqw gl d _ (by omega)
     have e1:=zka
     have e2:=H.bytes_all em
     rw[zlm]
     generalize em=q at *
     rw[zad (fd:=fd51) rfl]
     simp(disch:=apply zq;omega) only[go_sem,simprocAttr,↓Nat.reduceEqDiff,xx,fd51,m51,↓out16_eq,H.out16_len,H.out16_all,H.out16_pl,zea,e,e1,e2,H.noImms_bytesAV]
   | [x],hs =>
     obtain rfl:sh=sB:=by rcases hs with hs|hs;cases hs;exact hs
     have e1:=ha.at (i:=0) (by simp)
     rw[zqr]
     have e2:=H.bytes_all x
     simp only[dgA,wK]at e1
     rw[zad (fd:=fd51) rfl]
     simp(disch:=apply zq;omega) only[go_sem,simprocAttr,↓Nat.reduceEqDiff,xx,fd51,m51,↓out16_eq,H.out16_len,H.out16_all,H.out16_pl,dgL,wL,wM,zcb,e1,e2,H.noImms_bytesAV]
   | x::y::l,hs =>
     obtain rfl:sh=sB:=by rcases hs with hs|hs;cases hs;exact hs
     have h2:2<=(x::y::l).length:=by simp
     rw[zqq h2]
     generalize (x::y::l)=l at *
     have hk:=zfi h2
     have hp:=ze7 l.length
     have k:=@zzn gl d (by omega) l.length h2 (by omega)
     have a:=fun f'=>@ih d (l.take (spl l.length)) f' sB (by rw[wF];omega) (by omega) (ha.take _) (by rw[wF];omega) (Or.inr rfl)
     have b:=fun f'=>@ih d (l.drop (spl l.length)) f' sB (by rw[wG];omega) (by omega) (ha.drop _) (by rw[wG];omega) (Or.inr rfl)
     have ra:(rt nd em (l.take (spl l.length))).length=16:=rt_len (ha.take _)
     have rb:(rt nd em (l.drop (spl l.length))).length=16:=rt_len (ha.drop _)
     have e:=@zuq gl d _ (by omega) _ _ ra rb
     have e1:=zfm (rt nd em (l.take (spl l.length))) (rt nd em (l.drop (spl l.length)))
     have e2:=H.bytes_all (nd (rt nd em (l.take (spl l.length))) (rt nd em (l.drop (spl l.length))))
     generalize nd (rt nd em (l.take (spl l.length))) (rt nd em (l.drop (spl l.length)))=q at *
     generalize rt nd em (l.take (spl l.length))=qa at *
     generalize rt nd em (l.drop (spl l.length))=qb at *
     simp only[<-zdw]at a;simp only[<-zgc]at b
     generalize spl l.length=z at *
     generalize l.length=w at *
     rw[zad (fd:=fd51) rfl]
     simp(implicitDefEqProofs:=false) (disch:=apply zq;omega) only[go_sem,simprocAttr,↓Nat.reduceEqDiff,xx,fd51,m51,↓out16_eq,H.out16_len,H.out16_all,H.out16_pl,hL,hT,zcb,k,a,b,e,e1,e2,H.noImms_bytesAV]
end
end Go.Proofs.S44.M
namespace Go.Proofs.S44.M
open Go Go.Ev Go.Proofs Go.Mk
open Go.Proofs.S44.H (GlK GlR)
variable {gl :Gl} {n:Nat}
abbrev nilA :AV:=.lst true .sc []
abbrev F32 :OB:=.fix .sc (.fn 116 [.ptr 100000 [],.ptr 100001 []])
theorem zpm :∀(c:Nat) (l:List Dg) (i:Nat),l.length<=c->(incl nd em l i).length<=l.length
 | 0,l,i,h=>by rw[zis (by omega)];simp
 | c+1,l,i,h=>by
   by_cases h2:2<=l.length
   . have hk:=zfi h2
     have hp:=ze7 l.length
     by_cases hi:i<spl l.length
     . rw[ztd h2 hi,wI,wH]
       have:=zpm c (l.take (spl l.length)) i (by rw[wF];omega)
       rw[wF]at this;omega
     . rw[zte h2 hi,wI,wH]
       have:=zpm c (l.drop (spl l.length)) (i-spl l.length) (by rw[wG];omega)
       rw[wG]at this;omega
   . rw[zis (by omega)];simp
theorem zhy (h:1<=n){l:List Dg}{f:Bool}(i:Nat)(h1:l.length=1) :
  call gl tab n 116 [.lst f sB (dgL l),i64 i,.ptr 100000 [],.ptr 100001 []] [(100000,F32),(100001,.fix .sc nilA)]=some (.tup [],[(100000,F32),(100001,.fix .sc nilA)],[]):=by
 obtain⟨d,rfl⟩:=wA h
 have hL:=dgL_length l
 rw[za7 (fd:=zkm) rfl]
 simp(disch:=apply zq;omega) only[go_sem,simprocAttr,↓Nat.reduceEqDiff,xx,zkm,m116,hL,h1]
section
variable [Nonempty (GlK gl)]
theorem qai :∀(c:Nat) {n:Nat} (l:List Dg) (f:Bool) (i:Nat),l.length<=c->9+c<=n->All16 l->l.length<=1000000->i<l.length->2<=l.length ->
  call gl tab n 116 [.lst f sB (dgL l),i64 i,.ptr 100000 [],.ptr 100001 []] [(100000,F32),(100001,.fix .sc nilA)] =
   some (.tup [],[(100000,F32),(100001,.fix .sc (.sl 20000 [] 0 (incl nd em l i).length))],[.grow sB (dgL (incl nd em l i))]):=by
 intro c
 induction c with
 | zero=>intro n l f i hc h ha hl hi h2;omega
 | succ c ih =>
   intro n l f i hc h ha hl hi h2
   obtain⟨d,rfl⟩:∃d,n=d+1:=⟨n-1,by omega⟩
   have hL:=dgL_length l
   have hT:=zh3 l
   have hk:=zfi h2
   have hp:=ze7 l.length
   have k:=@zoq gl d (by omega) l.length h2 (by omega)
   have na:=dgL_noImms
   have l1:1<=LIM:=by unfold LIM;omega
   by_cases hlo:i<spl l.length
   . have b:=fun f'=>@root_at gl _ c d (l.drop (spl l.length)) f' sB (by rw[wG];omega) (by omega) (ha.drop _) (by rw[wG];omega) (Or.inr rfl)
     rw[ztd h2 hlo,zp1,wI,wH]
     have rb:=rt_len (ha.drop (spl l.length))
     have qb:=H.bytes_all (rt nd em (l.drop (spl l.length)))
     have tl:(l.take (spl l.length)).length=spl l.length:=by rw[wF];omega
     by_cases h3:2<=spl l.length
     . have a:=fun f'=>@ih d (l.take (spl l.length)) f' i (by omega) (by omega) (ha.take _) (by omega) (by omega) (by omega)
       have hN:=zpm _ (l.take (spl l.length)) i (wB _)
       have hM:=dgL_length (incl nd em (l.take (spl l.length)) i)
       simp only[<-zdw]at a
       simp only[<-zgc]at b
       generalize rt nd em (l.drop (spl l.length))=r at *
       generalize incl nd em (l.take (spl l.length)) i=p at *
       rw[tl]at hN
       have hlim:p.length+1<=LIM:=by unfold LIM;omega
       generalize spl l.length=z at *
       generalize l.length=w at *
       rw[za7 (fd:=zkm) rfl]
       simp(implicitDefEqProofs:=false) (disch:=apply zq;omega) only[go_sem,simprocAttr,↓Nat.reduceEqDiff,xx,zkm,m116,↓out16_eq,H.out16_len,H.out16_all,H.out16_pl,hL,hT,hM,zcb,k,a,b,rb,qb,na,H.noImms_bytesAV]
     . have a:=fun f'=>@zhy gl d (by omega) (l.take (spl l.length)) f' i (by omega)
       rw[zis (l:=l.take (spl l.length)) (by omega)]
       simp only[<-zdw]at a
       simp only[<-zgc]at b
       generalize rt nd em (l.drop (spl l.length))=r at *
       generalize spl l.length=z at *
       generalize l.length=w at *
       rw[za7 (fd:=zkm) rfl]
       simp(implicitDefEqProofs:=false) (disch:=apply zq;omega) only[go_sem,simprocAttr,↓Nat.reduceEqDiff,xx,zkm,m116,↓out16_eq,H.out16_len,H.out16_all,H.out16_pl,hL,hT,zcb,k,a,b,rb,qb,na,H.noImms_bytesAV,zea]
   . have b:=fun f'=>@root_at gl _ c d (l.take (spl l.length)) f' sB (by rw[wF];omega) (by omega) (ha.take _) (by rw[wF];omega) (Or.inr rfl)
     rw[zte h2 hlo,zp1,wI,wH]
     have rb:=rt_len (ha.take (spl l.length))
     have qb:=H.bytes_all (rt nd em (l.take (spl l.length)))
     have tl:(l.drop (spl l.length)).length=l.length-spl l.length:=by rw[wG]
     have ei:(i:Int)-(spl l.length:Int)=((i-spl l.length:Nat):Int):=by omega
     by_cases h3:2<=l.length-spl l.length
     . have a:=fun f'=>@ih d (l.drop (spl l.length)) f' (i-spl l.length) (by omega) (by omega) (ha.drop _) (by omega) (by omega) (by omega)
       have hN:=zpm _ (l.drop (spl l.length)) (i-spl l.length) (wB _)
       have hM:=dgL_length (incl nd em (l.drop (spl l.length)) (i-spl l.length))
       simp only[<-zgc]at a
       simp only[<-zdw]at b
       generalize rt nd em (l.take (spl l.length))=r at *
       generalize incl nd em (l.drop (spl l.length)) (i-spl l.length)=p at *
       rw[tl]at hN
       have hlim:p.length+1<=LIM:=by unfold LIM;omega
       generalize spl l.length=z at *
       generalize l.length=w at *
       rw[za7 (fd:=zkm) rfl]
       simp(implicitDefEqProofs:=false) (disch:=apply zq;omega) only[go_sem,simprocAttr,↓Nat.reduceEqDiff,xx,zkm,m116,↓out16_eq,H.out16_len,H.out16_all,H.out16_pl,hL,hT,hM,zcb,k,a,b,rb,qb,na,H.noImms_bytesAV,ei]
     . have a:=fun f'=>@zhy gl d (by omega) (l.drop (spl l.length)) f' (i-spl l.length) (by omega)
       rw[zis (l:=l.drop (spl l.length)) (by omega)]
       simp only[<-zgc]at a
       simp only[<-zdw]at b
       generalize rt nd em (l.take (spl l.length))=r at *
       generalize spl l.length=z at *
       generalize l.length=w at *
       rw[za7 (fd:=zkm) rfl]
       simp(implicitDefEqProofs:=false) (disch:=apply zq;omega) only[go_sem,simprocAttr,↓Nat.reduceEqDiff,xx,zkm,m116,↓out16_eq,H.out16_len,H.out16_all,H.out16_pl,hL,hT,zcb,k,a,b,rb,qb,na,H.noImms_bytesAV,zea,ei]
end
def ansL (p:List Dg):AV:=if p=[]then nilA else .lst false sB (dgL p)
end Go.Proofs.S44.M
namespace Go.Proofs.S44.M
open Go Go.Ev Go.Proofs Go.Mk
open Go.Proofs.S44.H (GlK GlR)
variable {gl :Gl} {n:Nat}
theorem zmn {k:Nat}{c:List AV}:(AV.fn k c).scalar=true:=rfl
section
variable [Nonempty (GlK gl)]
theorem inclusion_ok (h:1000<=n){l:List Dg}{f:Bool}{sh:Sh}{i:Nat}(ha:All16 l)(hl:l.length<=900)(hi:i<l.length)(hs:Sd l sh sB) :
  call gl tab n 67 [.lst f sh (dgL l),i64 i] []=some (.tup [.sl 20000 [] 0 (incl nd em l i).length,i64 0],[],[.grow sB (dgL (incl nd em l i))]):=by
 obtain⟨d,rfl⟩:=wA h
 have hL:=dgL_length l
 obtain rfl:sh=sB:=by rcases hs with hs|hs;subst hs;simp at hi;exact hs
 by_cases h2:2<=l.length
 . have a:=@qai gl _ l.length (d+999) l f i (wB _) (by omega) ha (by omega) hi h2
   have hN:incl nd em l i≠[]:=by
    by_cases hlo:i<spl l.length
    . rw[ztd h2 hlo];simp
    . rw[zte h2 hlo];simp
   have hM:=dgL_length (incl nd em l i)
   have hT:=zh3 (incl nd em l i)
   have na:=dgL_noImms (incl nd em l i)
   generalize incl nd em l i=p at *
   generalize l.length=w at *
   rw[zad (fd:=fd67) rfl]
   simp(disch:=apply zq;omega) only[go_sem,simprocAttr,↓Nat.reduceEqDiff,xx,fd67,m67,hL,hM,hT,a,na,zmn]
 . have a:=@zhy gl (d+999) (by omega) l f i (by omega)
   rw[zis (by omega),List.length_nil,zea]
   generalize l.length=w at *
   rw[zad (fd:=fd67) rfl]
   simp(disch:=apply zq;omega) only[go_sem,simprocAttr,↓Nat.reduceEqDiff,xx,fd67,m67,hL,a,zmn]
end
section
variable [Nonempty (GlR gl)]
end
end Go.Proofs.S44.M
