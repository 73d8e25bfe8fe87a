/-
  Chapter 3: going through a list backward. No condition.
-/
import Derived.Test.YtcddalfeicoedaaGreatDoorW44G17x4
set_option linter.all false
open Nat renaming exists_eq_add_of_le'->wA,sub_self->wB,sub_zero->wC
open List renaming length_dropLast->wD,drop_zero->wE,length_take->wF,drop_length->wG,dropLast_eq_take->wH,length_pos_iff->wI
namespace Go.Proofs.S44.M
open Go Go.Ev Go.Proofs Go.Mk
open Go.Proofs.S44.H (GlK GlR)
variable {gl :Gl} {n:Nat}
def bk (t:List Dg)(d:Dg):Dg:=t.foldr nd d
theorem zrr (t:List Dg){d:Dg}(h:d.length=16):(bk t d).length=16:=by
 cases t with
 | nil=>exact h
 | cons x l=>exact zfh _ _
theorem z2h {t:List Dg}{d:Dg}{i:Nat}(h:i<t.length):bk (t.drop i) d=nd (dgA t i) (bk (t.drop (i+1)) d):=by
 rw[List.drop_eq_getElem_cons h]
 show nd t[i] (bk (t.drop (i+1)) d)=_
 rw[dgA,List.getD_eq_getElem?_getD,List.getElem?_eq_getElem h,Option.getD_some]
abbrev LP (r:Nat):OB:=.lp r [.ptr 100001 []] .ready
abbrev cD (d:Dg):OB:=.fix (.ar 16 .sc) (bAV d)
section
variable [Nonempty (GlK gl)]
theorem z82 (h:8<=n)(i:Int){x d:Dg}(hx:x.length=16)(hd:d.length=16) :
  call gl tab n 1000600 [i64 i,bAV x] [(100000,LP 600),(100001,cD d)]=some (.bool true,[(100000,LP 600),(100001,cD (nd x d))],[]):=by
 obtain⟨k,rfl⟩:=wA h
 have e:=@zls gl (k+7) _ (by omega) _ _ hx hd
 have e3:=zfh x d
 have e4:=H.bytes_all (nd x d)
 have x2:=H.bytes_all x
 have x1:=b16t hx
 generalize nd x d=q at *
 rw[zku (fd:=zu4) rfl rfl]
 simp(disch:=apply zq;omega) only[go_sem,simprocAttr,↓Nat.reduceEqDiff,xx,zu4,z94,z92,↓out16_eq,H.out16_len,H.out16_all,H.out16_pl,hx,x1,x2,e,e3,e4]
theorem z83 (h:8<=n)(i:Int){x d:Dg}(hx:x.length=16)(hd:d.length=16) :
  call gl tab n 1000520 [i64 i,bAV x] [(100000,LP 520),(100001,cD d)]=some (.bool true,[(100000,LP 520),(100001,cD (nd x d))],[]):=by
 obtain⟨k,rfl⟩:=wA h
 have e:=@zls gl (k+7) _ (by omega) _ _ hx hd
 have e3:=zfh x d
 have e4:=H.bytes_all (nd x d)
 have x2:=H.bytes_all x
 have x1:=b16t hx
 generalize nd x d=q at *
 rw[zku (fd:=zu5) rfl rfl]
 simp(disch:=apply zq;omega) only[go_sem,simprocAttr,↓Nat.reduceEqDiff,xx,zu5,z95,z93,↓out16_eq,H.out16_len,H.out16_all,H.out16_pl,hx,x1,x2,e,e3,e4]
end
theorem zml (h:1<=n){f:Bool}{sh:Sh}{t:List Dg}:call gl tab n 104 [.lst f sh (dgL t)] []=some (.fn 147 [.ptr 20000 []],[],[.fix .sc (.lst f sh (dgL t))]):=by
 obtain⟨d,rfl⟩:=wA h
 rw[za3 (fd:=z5y) rfl]
 simp(disch:=apply zq;omega) only[go_sem,simprocAttr,↓Nat.reduceEqDiff,xx,z5y,m104]
def L72 :MC:=match m147 with| .seq _ (.block _ (.loop _ b))=>b|_=>.skip
def S72 (r:Nat)(f:Bool)(sh:Sh)(t:List Dg)(d:Dg)(i:Nat):St :=
 ⟨[.set 3 (i64 ((t.length:Int)-1-i)),.set 1 (.ptr 100002 []),.set 0 (.yld 100000)],[(100002,.fix .sc (.lst f sh (dgL t))),(100001,cD (bk (t.drop (t.length-i)) d)),(100000,LP r)]⟩
section
variable [Nonempty (GlK gl)]
theorem zvx {k:Nat}(hk:8<=k){f:Bool}{sh:Sh}{t:List Dg}{d:Dg}{i:Nat}(hi:i<t.length)(hl:t.length<=1000000)(ha:All16 t)(hd:d.length=16)(hs:Sd t sh sB) :
  zbm [.slot 0,.slot 1,.slot 3] (evC gl (call gl tab k) L72 (S72 600 f sh t d i))=some (S72 600 f sh t d (i+1)):=by
 obtain rfl:sh=sB:=by rcases hs with hs|hs;subst hs;simp at hi;exact hs
 have hL:=dgL_length t
 have hA:=dgL_at (l:=t) (i:=t.length-1-i) (by omega)
 have q1:=ha.at (i:=t.length-1-i) (by omega)
 have hb:=@z2h t d (t.length-1-i) (by omega)
 have hq:=zrr (t.drop (t.length-1-i+1)) hd
 have q2:=H.bytes_all (dgA t (t.length-1-i))
 have c:=@z82 gl k _ hk ((t.length-1-i:Nat):Int) _ _ q1 hq
 rw[<-hb]at c
 rw[show t.length-1-i+1=t.length-i by omega]at c
 rw[S72,S72,show t.length-(i+1)=t.length-1-i by omega]
 have e1:(t.length:Int)-1-(i:Int)=((t.length-1-i:Nat):Int):=by omega
 have e2:(t.length:Int)-1-((i+1:Nat):Int)=((t.length-1-i:Nat):Int)-1:=by omega
 rw[e1,e2]
 clear hb hq e1 e2
 generalize bk (t.drop (t.length-i)) d=d1 at *
 generalize bk (t.drop (t.length-1-i)) d=d2 at *
 generalize dgA t (t.length-1-i)=x at *
 have hj:t.length-1-i<t.length:=by omega
 generalize t.length-1-i=j at *
 simp(disch:=apply zq;omega) only[go_sem,simprocAttr,↓Nat.reduceEqDiff,xx,L72,m147,hL,hA,q1,q2,c]
theorem z2q (h:9<=n){f:Bool}{sh:Sh}{t:List Dg}{d:Dg}(hl:t.length<=1000000)(ha:All16 t)(hd:d.length=16)(hs:Sd t sh sB) :
  call gl tab n 147 [.yld 100000,.ptr 100002 []] [(100000,LP 600),(100001,cD d),(100002,.fix .sc (.lst f sh (dgL t)))]=some (.tup [],[(100000,LP 600),(100001,cD (bk t d)),(100002,.fix .sc (.lst f sh (dgL t)))],[]):=by
 obtain⟨k,rfl⟩:=wA h
 have hL:=dgL_length t
 have st:=fun i hi=>@zvx gl _ (k+8) (by omega) f sh t d i hi hl ha hd hs
 simp only[L72,m147]at st
 rw[za3 (fd:=zxd) rfl]
 simp(disch:=apply zq;omega) only[go_sem,simprocAttr,↓Nat.reduceEqDiff,xx,zxd,m147,hL]
 rw[zam (S72 600 f sh t d) t.length (by unfold LF;omega)]
 . rw[S72,wB,wE,show(t.length:Int)-1-(t.length:Int)=-1 by omega]
   simp(disch:=apply zq;omega) only[go_sem,simprocAttr,↓Nat.reduceEqDiff,xx,hL]
 . rw[S72,wC,wG,show bk [] d=d from rfl,show(t.length:Int)-1-((0:Nat):Int)=(t.length:Int)-1 by omega]
   simp(disch:=apply zq;omega) only[go_sem,simprocAttr,↓Nat.reduceEqDiff,xx]
 . exact st
 . rw[S72,wB,wE,show(t.length:Int)-1-(t.length:Int)=-1 by omega]
   simp(disch:=apply zq;omega) only[go_sem,simprocAttr,↓Nat.reduceEqDiff,xx,hL]
end
section
variable [Nonempty (GlK gl)]
theorem zvy {k:Nat}(hk:8<=k){f:Bool}{sh:Sh}{t:List Dg}{d:Dg}{i:Nat}(hi:i<t.length)(hl:t.length<=1000000)(ha:All16 t)(hd:d.length=16)(hs:Sd t sh sB) :
  zbm [.slot 0,.slot 1,.slot 3] (evC gl (call gl tab k) L72 (S72 520 f sh t d i))=some (S72 520 f sh t d (i+1)):=by
 obtain rfl:sh=sB:=by rcases hs with hs|hs;subst hs;simp at hi;exact hs
 have hL:=dgL_length t
 have hA:=dgL_at (l:=t) (i:=t.length-1-i) (by omega)
 have q1:=ha.at (i:=t.length-1-i) (by omega)
 have hb:=@z2h t d (t.length-1-i) (by omega)
 have hq:=zrr (t.drop (t.length-1-i+1)) hd
 have q2:=H.bytes_all (dgA t (t.length-1-i))
 have c:=@z83 gl k _ hk ((t.length-1-i:Nat):Int) _ _ q1 hq
 rw[<-hb]at c
 rw[show t.length-1-i+1=t.length-i by omega]at c
 rw[S72,S72,show t.length-(i+1)=t.length-1-i by omega]
 have e1:(t.length:Int)-1-(i:Int)=((t.length-1-i:Nat):Int):=by omega
 have e2:(t.length:Int)-1-((i+1:Nat):Int)=((t.length-1-i:Nat):Int)-1:=by omega
 rw[e1,e2]
 clear hb hq e1 e2
 generalize bk (t.drop (t.length-i)) d=d1 at *
 generalize bk (t.drop (t.length-1-i)) d=d2 at *
 generalize dgA t (t.length-1-i)=x at *
 have hj:t.length-1-i<t.length:=by omega
 generalize t.length-1-i=j at *
 simp(disch:=apply zq;omega) only[go_sem,simprocAttr,↓Nat.reduceEqDiff,xx,L72,m147,hL,hA,q1,q2,c]
theorem z2r (h:9<=n){f:Bool}{sh:Sh}{t:List Dg}{d:Dg}(hl:t.length<=1000000)(ha:All16 t)(hd:d.length=16)(hs:Sd t sh sB) :
  call gl tab n 147 [.yld 100000,.ptr 100002 []] [(100000,LP 520),(100001,cD d),(100002,.fix .sc (.lst f sh (dgL t)))]=some (.tup [],[(100000,LP 520),(100001,cD (bk t d)),(100002,.fix .sc (.lst f sh (dgL t)))],[]):=by
 obtain⟨k,rfl⟩:=wA h
 have hL:=dgL_length t
 have st:=fun i hi=>@zvy gl _ (k+8) (by omega) f sh t d i hi hl ha hd hs
 simp only[L72,m147]at st
 rw[za3 (fd:=zxd) rfl]
 simp(disch:=apply zq;omega) only[go_sem,simprocAttr,↓Nat.reduceEqDiff,xx,zxd,m147,hL]
 rw[zam (S72 520 f sh t d) t.length (by unfold LF;omega)]
 . rw[S72,wB,wE,show(t.length:Int)-1-(t.length:Int)=-1 by omega]
   simp(disch:=apply zq;omega) only[go_sem,simprocAttr,↓Nat.reduceEqDiff,xx,hL]
 . rw[S72,wC,wG,show bk [] d=d from rfl,show(t.length:Int)-1-((0:Nat):Int)=(t.length:Int)-1 by omega]
   simp(disch:=apply zq;omega) only[go_sem,simprocAttr,↓Nat.reduceEqDiff,xx]
 . exact st
 . rw[S72,wB,wE,show(t.length:Int)-1-(t.length:Int)=-1 by omega]
   simp(disch:=apply zq;omega) only[go_sem,simprocAttr,↓Nat.reduceEqDiff,xx,hL]
end
end Go.Proofs.S44.M
namespace Go.Proofs.S44.M
open Go Go.Ev Go.Proofs Go.Mk
open Go.Proofs.S44.H (GlK GlR)
variable {gl :Gl} {n:Nat}
def topV (t:List Dg):Dg:=if t=[]then em else bk t.dropLast (t.getLastD z16)
theorem zky {t:List Dg}(h:t≠[]):topV t=bk t.dropLast (t.getLastD z16):=by rw[topV,if_neg h]
section
variable [Nonempty (GlK gl)]
theorem top_ok (h:14<=n){z:Int}{f:Bool}{t:List Dg}(hl:t.length<=1000000)(ha:All16 t)(ht:t≠[])(hz:-9223372036854775808<=z/\z<=9223372036854775807)(hF:Form z t) :
  call gl tab n 60 [pkAV z f sB t] []=some (.tup [bAV (topV t),i64 0],[],[]):=by
 obtain⟨d,rfl⟩:=wA h
 have c:=@z09 gl (d+13) (by omega) z f sB t hl hz
 rw[decide_eq_true hF]at c
 rw[zky ht]
 have h1:=wI.2 ht
 have hL:=dgL_length t
 have hD:=zgx t
 have hA:=dgL_at (l:=t) (i:=t.length-1) (by omega)
 have q1:=zgs ha
 rw[zf4 z16 ht]at hA
 have q2:=H.bytes_all (t.getLastD z16)
 have e1:((t.length:Int)-1)=((t.length-1:Nat):Int):=by omega
 have b1:=fun f'=>@zml gl (d+13) (by omega) f' sB t.dropLast
 have b2:=fun f'=>@z2q gl (d+13) _ (by omega) f' sB t.dropLast (t.getLastD z16) (by rw[wD];omega) ha.dropLast q1 (Or.inr rfl)
 have b3:=zrr t.dropLast q1
 have b4:=H.bytes_all (bk t.dropLast (t.getLastD z16))
 generalize bk t.dropLast (t.getLastD z16)=q at *
 generalize t.getLastD z16=r at *
 rw[zaf (fd:=fd60) rfl]
 simp(maxSteps:=1000000) (disch:=apply zq;omega) only[go_sem,simprocAttr,↓Nat.reduceEqDiff,xx,fd60,m60,↓out16_eq,H.out16_len,H.out16_all,H.out16_pl,c,hL,hD,hA,q1,q2,e1,b1,b2,b3,b4,zd0]
end
end Go.Proofs.S44.M
namespace Go.Proofs.S44.M
open Go Go.Ev Go.Proofs Go.Mk
open Go.Proofs.S44.H (GlK GlR)
variable {gl :Gl} {n:Nat}
section
variable [Nonempty (GlR gl)]
end
end Go.Proofs.S44.M
namespace Go.Proofs.S44.M
open Go Go.Ev Go.Proofs Go.Mk
open Go.Proofs.S44.H (GlK GlR)
variable {gl :Gl} {n:Nat}
theorem Sd.drop {p:List Dg}{sh:Sh}(hs:Sd p sh sB)(k:Nat):Sd (p.drop k) sh sB:=by
 rcases hs with h|h
 . subst h;exact Or.inl (by simp)
 . exact Or.inr h
theorem z6l (h:1<=n){f:Bool}{sh:Sh}{t:List Dg}(hl:t.length<=1000000)(hs:Sd t sh sB) :
  call gl tab n 106 [.lst f sh (dgL t)] []=some (.sl 20000 [] 0 t.length,[],[.grow sB (dgL t)]):=by
 obtain⟨d,rfl⟩:=wA h
 have h1:t.length<=LIM:=by unfold LIM;omega
 rw[zku (fd:=qa3) rfl rfl]
 rcases hs with rfl|rfl
 . simp[zrm,zgw]
 . simp[zrm,dgL_length,h1,Sh.beq,Sh.beqs]
def grw (s:Nat)(t:List Dg)(leaf:Dg):List Dg:=t.take (t.length-tr1 s)++[bk (t.drop (t.length-tr1 s)) leaf]
theorem qiw (y:BitVec 64):BitVec.ofInt 64 (if IntKind.u64.signed=true then -1 else IntKind.u64.max)^^^y= ~~~ y:=by
 rw[show BitVec.ofInt 64 (if IntKind.u64.signed=true then -1 else IntKind.u64.max)=BitVec.allOnes 64 from by decide +kernel]
 exact BitVec.allOnes_xor
section
variable [Nonempty (GlK gl)] [Nonempty (GlB gl)]
theorem append_ok (h:14<=n){s:Nat}{f:Bool}{sh:Sh}{t:List Dg}{leaf:Dg}(hf:leaf.length=16)(hl:t.length<=1000000)(ha:All16 t)(hs:Sd t sh sB)(hz:s<1099511627776)(hF:Form s t) :
  call gl tab n 52 [pkAV s f sh t,bAV leaf] []=some (.tup [.agg [i64 (s+1:Nat),.lst false sB (dgL (grw s t leaf))],i64 0],[],[]):=by
 obtain⟨d,rfl⟩:=wA h
 have c:=@z09 gl (d+13) (by omega) s f sh t hl (by omega)
 rw[decide_eq_true hF]at c
 have hle:tr1 s<=t.length:=by have h1:=ztu s s (Nat.le_refl _);have h2:=hF.2.2;rw[Int.toNat_natCast]at h2;omega
 have l1:=b16t hf
 have l2:=H.bytes_all leaf
 have tz:=@z2y gl (d+13) _ (by omega) s (by omega)
 have hL:=dgL_length t
 have hT:=zmg t
 have hs1:Sd (t.take (t.length-tr1 s)) sh sB:=by rcases hs with rfl|h0;exact Or.inl (by simp);exact Or.inr h0
 have hs2:Sd (t.drop (t.length-tr1 s)) sh sB:=hs.drop _
 have k1:=fun f'=>@z6l gl (d+13) (by omega) f' sh (t.take (t.length-tr1 s)) (by rw[wF];omega) hs1
 have b1:=fun f'=>@zml gl (d+13) (by omega) f' sh (t.drop (t.length-tr1 s))
 have b2:=fun f'=>@z2r gl (d+13) _ (by omega) f' sh (t.drop (t.length-tr1 s)) leaf (by rw[List.length_drop];omega) (ha.drop _) hf hs2
 have b3:=zrr (t.drop (t.length-tr1 s)) hf
 have b4:=H.bytes_all (bk (t.drop (t.length-tr1 s)) leaf)
 have b5:=H.noImms_bytesAV (bk (t.drop (t.length-tr1 s)) leaf)
 have n1:=zhl (t.take (t.length-tr1 s))
 have hk:(t.take (t.length-tr1 s)).length=t.length-tr1 s:=by rw[wF];omega
 have hkL:=dgL_length (t.take (t.length-tr1 s))
 have hkT:=zmg (t.take (t.length-tr1 s))
 rw[hk]at k1 hkL hkT
 rw[grw,zs9]
 have ej:(t.length:Int)-(tr1 s:Int)=((t.length-tr1 s:Nat):Int):=by omega
 have es:BitVec.ofInt 64 (s:Int)=BitVec.ofNat 64 s:=BitVec.ofInt_natCast ..
 have hlim:t.length+1<=LIM:=by unfold LIM;omega
 have hs':((s+1:Nat):Int)=(s:Int)+1:=by omega
 rw[hs']
 have hj:t.length-tr1 s<=t.length:=Nat.sub_le _ _
 have hcv:IntKind.wrap .u64 (s:Int)=(s:Int):=by rw[zn2,BitVec.ofInt_natCast,BitVec.toNat_ofNat,Nat.mod_eq_of_lt (by omega)]
 simp only[<-zf8,<-zhm]at k1 b1 b2 n1 hkL hkT ⊢
 clear hF hs1 hs2
 generalize tr1 s=j0 at *
 generalize bk (t.drop (t.length-j0)) leaf=q at *
 generalize hjj:t.length-j0=j at *
 have hT2:List.take (j+1) (List.take j (dgL t)++[AV.agg (zac q)])=List.take j (dgL t)++[AV.agg (zac q)]:=List.take_of_length_le (by simp[hkL])
 rcases hs with h0|h0
 . subst h0
   obtain rfl:j=0:=by simpa using hj
   obtain rfl:j0=0:=by simpa using hle
   simp only[zgw,List.take_nil,List.drop_nil,List.nil_append,List.length_nil]at *
   replace c:call gl tab (d+13) 102 [.agg [i64 s,.lst f sh []]] []=some (.bool true,[],[]):=c
   show call gl tab (d+14) 52 [.agg [i64 s,.lst f sh []],bAV leaf] []=_
   rw[zaf (fd:=fd52) rfl]
   simp(maxSteps:=1000000) (disch:=apply zq;omega) only[go_sem,simprocAttr,↓Nat.reduceEqDiff,xx,fd52,m52,↓out16_eq,H.out16_len,H.out16_all,H.out16_pl,↓zsm,c,hf,l1,l2,tz,es,k1,b1,b2,b3,b4,b5,n1,hT2,zd0]
 . subst h0
   rw[zaf (fd:=fd52) rfl]
   simp(maxSteps:=1000000) (disch:=apply zq;omega) only[go_sem,simprocAttr,↓Nat.reduceEqDiff,xx,fd52,m52,↓out16_eq,H.out16_len,H.out16_all,H.out16_pl,↓zsm,c,hf,l1,l2,qiw,tz,ej,es,hL,hT,k1,b1,b2,b3,b4,b5,n1,hkL,hkT,hT2,zd0]
end
end Go.Proofs.S44.M
namespace Go.Proofs.S44.M
open Go Go.Ev Go.Proofs Go.Mk
theorem ztw :∀t:List Dg,topV t=tpF nd em t
 | []=>rfl
 | [d]=>rfl
 | d::e::l=>by
   have ih:=ztw (e::l)
   rw[tpF,<-ih,zky (by simp),zky (by simp)]
   rfl
theorem zun (z:Dg):∀(k:Nat) (t:List Dg) (d:Dg),k<=t.length->jns nd z k (t,d)=(t.take (t.length-k),bk (t.drop (t.length-k)) d)
 | 0,t,d,h=>by rw[jns,wC,List.take_length,wG];rfl
 | k+1,t,d,h=>by
   have hn:t≠[]:=wI.1 (by omega)
   rw[jns,jn]
   simp only
   rw[zun z k _ _ (by rw[wD];omega)]
   rw[wD,show t.length-1-k=t.length-(k+1) by omega,wH,List.take_take,Nat.min_eq_left (by omega)]
   congr 1
   have e:t.drop (t.length-(k+1))=(t.take (t.length-1)).drop (t.length-(k+1))++[t.getLastD z]:=by
    have h1:t=t.take (t.length-1)++[t.getLastD z]:=by
     rw[<-wH,List.getLastD_eq_getLast?,List.getLast?_eq_some_getLast hn,Option.getD_some,List.dropLast_concat_getLast]
    conv=>lhs;rw[h1]
    rw[List.drop_append_of_le_length (by rw[wF,<-h1];omega)]
    rw[<-h1]
   rw[e,bk,bk,List.foldr_append]
   rfl
theorem qas (z:Dg){s:Nat}{t:List Dg}{d:Dg}(h:tr1 s<=t.length):grw s t d=(jns nd z (tr1 s) (t,d)).1++[(jns nd z (tr1 s) (t,d)).2]:=by
 rw[zun z _ _ _ h];rfl
end Go.Proofs.S44.M
namespace Go.Proofs.S44.M
open Go Go.Ev Go.Proofs Go.Mk
open Go.Proofs.S44.H (GlK GlR)
variable {gl :Gl} {n:Nat}
section
variable [Nonempty (GlR gl)]
abbrev zG :OB:=.fix (.st [.st [.sc,.sc],.sc]) (.agg [.agg [i64 0,nilA],i64 0])
def S30 (s:Nat)(f:Bool)(sh:Sh)(t:List Dg)(leaf:Dg)(i:Nat):St :=
 ⟨[.set 8 (i64 ((s/2^i:Nat):Int)),.set 7 (.ptr 7 []),.set 6 (.sl 5006 [] 0 (t.length-i)),.set 4 (.ptr 4 []),.set 2 (.ptr 2 [])],
   [(7,cD (bk (t.drop (t.length-i)) leaf)),(4,zG),(2,.fix (.st [.sc,.sc]) (pkAV s f sh t)),(5006,.grow sB (dgL (t.take (t.length-i))))]⟩
end
end Go.Proofs.S44.M
namespace Go.Proofs.S44.M
open Go Go.Ev Go.Proofs Go.Mk
open Go.Proofs.S44.H (GlK GlR)
variable {gl :Gl} {n:Nat}
end Go.Proofs.S44.M
