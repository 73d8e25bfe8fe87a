/-
  Chapter 4: seals: the parts are put together. No condition.
-/
import Derived.Test.YtcddalfeicoedaaGreatDoorW44G1x3
import Derived.Test.YtcddalfeicoedaaGreatDoorW44G5x3
set_option linter.all false
open List renaming nil_append->wA,cons_append->wB,length_nil->wC,length_cons->wD,length_append->wE,append_assoc->wF,take_succ_eq_append_getElem->wG,map_cons->wH,take_of_length_le->wI,take_length->wJ,take_zero->wK,map_nil->wL
open Nat renaming exists_eq_add_of_le'->wM,zero_add->wN
namespace Go.Proofs.S44
open Go Go.Ev Go.Proofs
open Go.Proofs.S44.H (strsAV zaa zai)
variable {gl :Gl} {n:Nat}
def apL (s:List UInt8)(l:List (List UInt8)):Nat->List (List UInt8)
 | 0=>[]
 | 1=>[s]
 | 2=>s::l
 | _=>s::(l++[s])
abbrev allP (s:List UInt8)(l:List (List UInt8)):List (List UInt8):=s::(l++[s])
theorem qhd (s:List UInt8)(l:List (List UInt8)):apL s l 0=[]:=rfl
theorem qhc (s:List UInt8)(l:List (List UInt8)):apL s l 1=[s]:=rfl
theorem qhb (s:List UInt8)(l:List (List UInt8)):apL s l 2=s::l:=rfl
theorem qc0 (s:List UInt8)(l:List (List UInt8)):apL s l 3=allP s l:=rfl
def filL (N:Nat)(l:List (List UInt8)):List AV:=strsAV l++List.replicate (N-l.length) (.str [])
theorem zex (a b:List (List UInt8)):strsAV (a++b)=strsAV a++strsAV b:=by simp[strsAV]
theorem zk2 {N:Nat}{l:List (List UInt8)}(h:l.length<=N):(filL N l).length=N:=by simp[filL,zaa];omega
theorem zpt {N:Nat}{a b:List (List UInt8)}(h:a.length+b.length<=N):(filL N a).take a.length++(strsAV b++(filL N a).drop (a.length+b.length))=filL N (a++b):=by
 unfold filL
 rw[List.take_left' (zaa a),zex,wF]
 congr 2
 rw[<-zaa a,List.drop_append,List.drop_eq_nil_of_le (by omega),wA,Nat.add_sub_cancel_left,List.drop_replicate,wE,zaa]
 congr 1;omega
theorem z5r (l:List (List UInt8)):filL l.length l=strsAV l:=by simp[filL]
theorem qfz (N:Nat):filL N []=List.replicate N (.str []):=by simp[filL,strsAV]
theorem qbs (h:1<=n){N:Nat}(h0:1<=N)(hN:N<=100000):call gl tab n 174 [.lst true .sc [],i64 N] []=some (.sl 20000 [] 0 0,[],[.grow .sc (filL N [])]):=by
 obtain⟨d,rfl⟩:=wM h
 have hl:N<=LIM:=by unfold LIM;omega
 rw[qfz]
 rw[za7 (fd:=z5t) rfl]
 simp(disch:=apply zq;omega) only[go_sem,simprocAttr,↓Nat.reduceEqDiff,xx,z5t,m174,hl,wA,Nat.sub_zero]
def szP (l:List (List UInt8)):Nat->Int
 | 0=>0
 | 1=>1
 | 2=>1+l.length
 | _=>1+l.length+1
theorem qdq (l:List (List UInt8)):szP l 0=0:=rfl
theorem qdp (l:List (List UInt8)):szP l 1=1:=rfl
theorem qdo (l:List (List UInt8)):szP l 2=1+l.length:=rfl
theorem z83 (l:List (List UInt8)):szP l 3=1+l.length+1:=rfl
def L65 :MC:=match m167 with| .seq _ (.seq _ (.seq (.seq _ (.block _ (.loop _ b))) _))=>b|_=>.skip
def L65b :MC:=match m167 with| .seq _ (.seq _ (.seq _ (.seq _ (.seq (.seq _ (.block _ (.loop _ b))) _))))=>b|_=>.skip
def hp65 (f:Bool)(s:List UInt8)(l:List (List UInt8)):Hp:=[(100002,.grow .sc [.str s]),(100001,.grow .sc [.str s]),(100000,.fix (.ar 3 .sc) (.aggR [.sl 100001 [] 0 1,.lst f .sc (strsAV l),.sl 100002 [] 0 1]))]
def S65 (f:Bool)(s:List UInt8)(l:List (List UInt8))(i:Nat):St :=
 ⟨[.set 11 (i64 i),.set 10 (i64 3),.set 9 (.sl 100000 [] 0 3),.set 3 (i64 (szP l i)),.set 0 (.sl 100000 [] 0 3)],hp65 f s l⟩
def S65b (f:Bool)(s:List UInt8)(l:List (List UInt8))(i:Nat):St :=
 ⟨[.set 27 (i64 i),.set 26 (i64 3),.set 25 (.sl 100000 [] 0 3),.set 6 (.sl 24 [] 0 (apL s l i).length)],hp65 f s l++[(24,.grow .sc (filL (l.length+2) (apL s l i)))]⟩
set_option maxHeartbeats 1000000 in
theorem z2o (h:2<=n)(f:Bool)(s:List UInt8)(l:List (List UInt8))(hl:l.length<=1000) :
  call gl tab n 167 [.sl 100000 [] 0 3] [(100000,.fix (.ar 3 .sc) (.aggR [.sl 100001 [] 0 1,.lst f .sc (strsAV l),.sl 100002 [] 0 1])),(100001,.grow .sc [.str s]),(100002,.grow .sc [.str s])] =
   some (.sl 20000 [] 0 (l.length+2),[(100000,.fix (.ar 3 .sc) (.aggR [.sl 100001 [] 0 1,.lst f .sc (strsAV l),.sl 100002 [] 0 1])),(100001,.grow .sc [.str s]),(100002,.grow .sc [.str s])],[.grow .sc (strsAV (allP s l))]):=by
 obtain⟨d,rfl⟩:=wM h
 have hs:∀i,i<3->zbd [.slot 0,.slot 3,.slot 9,.slot 10,.slot 11] (evC gl (call gl tab (d+1)) L65 (S65 f s l i))=some (S65 f s l (i+1)):=fun i hi=>by
  match i,hi with
  | 0,_=>simp(disch:=apply zq;omega) only[go_sem,simprocAttr,↓Nat.reduceEqDiff,xx,L65,m167,S65,hp65,qdq,qdp]
  | 1,_=>simp(disch:=apply zq;omega) only[go_sem,simprocAttr,↓Nat.reduceEqDiff,xx,L65,m167,S65,hp65,qdp,qdo,zaa]
  | 2,_=>simp(disch:=apply zq;omega) only[go_sem,simprocAttr,↓Nat.reduceEqDiff,xx,L65,m167,S65,hp65,qdo,z83]
 have hs2:∀i,i<3->zbd [.slot 6,.slot 25,.slot 26,.slot 27,.key 24] (evC gl (call gl tab (d+1)) L65b (S65b f s l i))=some (S65b f s l (i+1)):=fun i hi=>by
  match i,hi with
  | 0,_ =>
    have e:=@zpt (l.length+2) [] [s] (by simp)
    have e2:=@zk2 (l.length+2) [] (by simp)
    simp only[wC,wD,wA,wN,wK]at e
    rw[S65b,S65b,qhd,qhc,<-e]
    generalize filL (l.length+2) []=z at *
    simp(disch:=apply zq;omega) only[go_sem,simprocAttr,↓Nat.reduceEqDiff,xx,L65b,m167,hp65,false_and,decide_false,e2,wB,wA,strsAV,wH,wL,wD,wC]
  | 1,_ =>
    have e:=@zpt (l.length+2) [s] l (by simp;omega)
    have e2:=@zk2 (l.length+2) [s] (by simp)
    simp only[wC,wD,wA,wN,List.singleton_append]at e
    rw[S65b,S65b,qhc,qhb,<-e]
    generalize filL (l.length+2) [s]=z at *
    have c7:1+l.length=l.length+1:=by omega
    simp(disch:=apply zq;omega) only[go_sem,simprocAttr,↓Nat.reduceEqDiff,xx,c7,L65b,m167,hp65,false_and,decide_false,e2,wB,wA,zaa,wD,wC,wF]
  | 2,_ =>
    have e:=@zpt (l.length+2) (s::l) [s] (by simp)
    have e2:=@zk2 (l.length+2) (s::l) (by simp)
    simp only[wC,wD,wA,wN,wB]at e
    rw[S65b,S65b,qhb,qc0,<-e]
    generalize filL (l.length+2) (s::l)=z at *
    simp(disch:=apply zq;omega) only[go_sem,simprocAttr,↓Nat.reduceEqDiff,xx,L65b,m167,hp65,false_and,decide_false,e2,wB,wA,strsAV,wH,wL,wD,wC,wF,wE]
 simp only[L65,m167]at hs
 simp only[L65b,m167]at hs2
 have c89:=@qbs gl (d+1) (by omega) (l.length+2) (by omega) (by omega)
 rw[show((l.length+2:Nat):Int)=(l.length:Int)+2 by omega]at c89
 have c8:(1:Int)+l.length+1=(l.length:Int)+2:=by omega
 have e:=z5r (allP s l)
 have e2:(allP s l).length=l.length+2:=by simp
 rw[e2]at e
 have e3:=zk2 (N:=l.length+2) (l:=allP s l) (by simp)
 rw[<-e]
 rw[za7 (fd:=z50) rfl]
 simp(disch:=apply zq;omega) only[go_sem,simprocAttr,↓Nat.reduceEqDiff,xx,z50,m167]
 rw[zag (S65 f s l) 3 (by unfold LF;omega)]
 . rw[S65,z83,c8]
   simp(disch:=apply zq;omega) only[go_sem,simprocAttr,↓Nat.reduceEqDiff,xx,hp65,c89]
   rw[zag (S65b f s l) 3 (by unfold LF;omega)]
   . rw[S65b,qc0]
     generalize filL (l.length+2) (allP s l)=z at *
     simp(disch:=apply zq;omega) only[go_sem,simprocAttr,↓Nat.reduceEqDiff,xx,hp65,wB,wA,e2,e3]
   . rw[S65b,qhd]
     generalize filL (l.length+2) []=z at *
     simp(disch:=apply zq;omega) only[go_sem,simprocAttr,↓Nat.reduceEqDiff,xx,hp65,wB,wA,wC]
   . exact hs2
   . rw[S65b,qc0]
     generalize filL (l.length+2) (allP s l)=z at *
     simp(disch:=apply zq;omega) only[go_sem,simprocAttr,↓Nat.reduceEqDiff,xx,hp65,wB,wA,e2,e3]
 . simp(disch:=apply zq;omega) only[go_sem,simprocAttr,↓Nat.reduceEqDiff,xx,S65,hp65,qdq]
 . exact hs
 . simp(disch:=apply zq;omega) only[go_sem,simprocAttr,↓Nat.reduceEqDiff,xx,S65,hp65,z83]
end Go.Proofs.S44
namespace Go.Proofs.S44
open Go Go.Ev Go.Proofs
open Go.Proofs.S44.H (strsAV zaa zai Sml GlK GlR)
variable {gl :Gl} {n:Nat}
def Pts (l:List (List UInt8)):Prop:=l.length<=100/\∀x∈l,x.length<=1048576
theorem Pts.all {s:List UInt8}{l:List (List UInt8)}(h:Pts l)(hs:s.length<=1048576):Sml (allP s l):=by
 refine⟨by have:=h.1;simp;omega,fun x hx=> ?_⟩
 simp only[allP,List.mem_cons,List.mem_append,List.not_mem_nil,or_false]at hx
 rcases hx with rfl|hx|rfl
 . exact hs
 . exact h.2 x hx
 . exact hs
def sea (k:List UInt8)(tag:Int)(l:List (List UInt8)):List UInt8:=H.dig (H.inp tag (allP k l))
theorem zot (k:List UInt8)(tag:Int)(l:List (List UInt8)):(sea k tag l).length=16:=H.dig_len _
def sAV (k:List UInt8)(tag:Int)(l:List (List UInt8)):List AV:=zac (sea k tag l)
theorem zi7 (k:List UInt8)(tag:Int)(l:List (List UInt8)):(sAV k tag l).length=16:=by rw[sAV,zab,zot]
theorem out16_eq :List.replicate 16 (AV.int .u8 0)=H.out16l:=rfl
theorem zi8 (k:List UInt8)(tag:Int)(l:List (List UInt8)):(sAV k tag l).all AV.scalar=true:=H.bytes_all _
theorem zqp (k:List UInt8)(tag:Int)(l:List (List UInt8)):zd0 (sAV k tag l)=true:=H.noImms_bytesAV _
theorem z0l [Nonempty (GlK gl)](h:8<=n)(x:Ky)(hx:x.k.length<=1048576)(tag:Int)(f:Bool)(l:List (List UInt8))(hl:Pts l) :
  call gl tab n 150 [ky x,i64 tag,.lst f .sc (strsAV l)] []=some (.agg (sAV x.k tag l),[],[]):=by
 obtain⟨d,rfl⟩:=wM h
 have c65:=@z2o gl (d+7) (by omega) f x.k l (by have:=hl.1;omega)
 have c64:=@H.of_at gl _ (d+6) (by omega) tag false (allP x.k l) (hl.all hx)
 have e1:(strsAV (allP x.k l)).length=l.length+2:=by rw[zaa];simp
 have e2:List.take (l.length+2) (strsAV (allP x.k l))=strsAV (allP x.k l):=by rw[<-e1];exact wJ
 have d1:=zi7 x.k tag l
 have d2:=zi8 x.k tag l
 have d3:=zqp x.k tag l
 rw[show zac (H.dig (H.inp tag (allP x.k l)))=sAV x.k tag l from rfl]at c64
 generalize sAV x.k tag l=z at *
 generalize strsAV (allP x.k l)=w at *
 rw[zad (fd:=z56) rfl]
 simp(disch:=apply zq;omega) only[go_sem,simprocAttr,↓Nat.reduceEqDiff,xx,z56,m150,↓out16_eq,H.out16_len,H.out16_all,H.out16_pl,c65,c64,e1,e2,d1,d2,d3]
theorem z35 [Nonempty (GlR gl)](h:8<=n)(x:Ky)(hx:x.k.length<=1048576)(tag:Int)(f:Bool)(l:List (List UInt8))(hl:Pts l) :
  call gl tab n 113 [ky x,i64 tag,.lst f .sc (strsAV l)] []=some (.agg (sAV x.k tag l),[],[]):=by
 obtain⟨d,rfl⟩:=wM h
 have c66:=@H.rof_at gl _ (d+5) (by omega) tag false (allP x.k l) (hl.all hx)
 have e0:AV.str x.k::(strsAV l++[.str x.k])=strsAV (allP x.k l):=by simp[H.strsAV]
 have e1:(strsAV (allP x.k l)).length=l.length+2:=by rw[zaa];simp
 have e2:List.take (l.length+2) (strsAV (allP x.k l))=strsAV (allP x.k l):=by rw[<-e1];exact wJ
 have d1:=zi7 x.k tag l
 have d2:=zi8 x.k tag l
 have d3:=zqp x.k tag l
 have hl1:=hl.1
 have h1:1+l.length<=LIM:=by unfold LIM;omega
 have h2:1+l.length+1<=LIM:=by unfold LIM;omega
 have e5:1+l.length+1=l.length+2:=by omega
 have e6:(strsAV l).length=l.length:=zaa l
 have e7:l.length+1+1=l.length+2:=by omega
 rw[show zac (H.dig (H.inp tag (allP x.k l)))=sAV x.k tag l from rfl]at c66
 generalize sAV x.k tag l=z at *
 generalize strsAV (allP x.k l)=w at *
 generalize strsAV l=y at *
 rw[zad (fd:=z6o) rfl]
 simp(disch:=apply zq;omega) only[go_sem,simprocAttr,↓Nat.reduceEqDiff,xx,z6o,m113,↓out16_eq,H.out16_len,H.out16_all,H.out16_pl,c66,e1,e2,d1,d2,d3,e6,h1,h2,e0,e5,e7,wB,wA,wF]
end Go.Proofs.S44
namespace Go.Proofs.S44
open Go Go.Ev Go.Proofs
open Go.Proofs.S44.H (strsAV zaa zai Sml GlK GlR)
variable {gl :Gl} {n:Nat}
theorem eqB_all :∀(a b:List UInt8),a.length=b.length->zpy ((zac a).zip (zac b)) (fun p=>eqAV .it p.1 p.2)=some (decide (a=b))
 | [],[],_=>rfl
 | x::a,y::b,h=>by
   have ih:=eqB_all a b (by simpa using h)
   simp only[zac,wH,List.zip_cons_cons,zpy,eqAV,if_pos,Option.bind_some]
   simp only[zac]at ih
   rw[ih]
   by_cases e:x=y
   . subst e;simp
   . have:((x.toNat:Int)==(y.toNat:Int))=false:=by
      rw[beq_eq_false_iff_ne];intro h2
      exact e (UInt8.toNat_inj.1 (by omega))
     rw[this];simp[e]
 | [],_::_,h=>by simp at h
 | _::_,[],h=>by simp at h
theorem eqB {a b:List UInt8}(ha:a.length=16)(hb:b.length=16):eqAV (.ar 16 .it) (.agg (zac a)) (.agg (zac b))=some (decide (a=b)):=by
 have:=eqB_all a b (by omega)
 rw[eqAV,if_pos ⟨by rw[zab];exact ha,by rw[zab];exact hb⟩]
 exact this
def fnK (l:List Ky)(p s:Int):Option Ky:=l.find? fun x=>x.p==p&&x.s==s
theorem qfy {l:List Ky}(hv:VR l){p s:Int}{k:Nat}(hk:Is l p s k):fnK l p s=some (yat l k):=by
 unfold fnK
 rw[List.find?_eq_some_iff_getElem]
 refine⟨by rw[Bool.and_eq_true,beq_iff_eq,beq_iff_eq];exact hk.2,k,hk.1,(zqe hk.1).symm,fun j hj=> ?_⟩
 have hj2:j<l.length:=by have:=hk.1;omega
 rw[Bool.not_eq_true',Bool.and_eq_false_iff]
 by_cases h1:l[j].p=p
 . right;rw[beq_eq_false_iff_ne];intro h2
   have:=z8c hv ⟨hj2,by rw[zqe hj2];exact h1,by rw[zqe hj2];exact h2⟩ hk
   omega
 . left;rw[beq_eq_false_iff_ne];exact h1
theorem qfx {l:List Ky}{p s:Int}(hk:∀k,¬Is l p s k):fnK l p s=none:=by
 unfold fnK
 rw[List.find?_eq_none]
 intro x hx
 obtain⟨j,hj,rfl⟩:=List.getElem_of_mem hx
 rw[Bool.and_eq_true,beq_iff_eq,beq_iff_eq]
 rintro ⟨h1,h2⟩
 exact hk j ⟨hj,by rw[zqe hj];exact h1,by rw[zqe hj];exact h2⟩
def ckE (l:List Ky)(p s tag:Int)(ps:List (List UInt8))(sl:List UInt8)(lo hi:Int):Int :=
 match fnK l p s with
 | none=>5
 | some x=>if cnt x lo hi=true then(if sea x.k tag ps=sl then 0 else 8)else 9
section
variable {f :Bool} {m:Sh} {l:List Ky} {p s:Int} {sl:List UInt8} {ps:List (List UInt8)} {fp:Bool}
theorem z7j [Nonempty (GlK gl)](h:10<=n)(hm:Mk l m)(hv:VR l)(hp:R64 p)(hs:R64 s)(tag:Int)(hps:Pts ps)(hsl:sl.length=16)(lo hi:Int) :
  call gl tab n 118 [.lst f m (ks l),i64 p,i64 s,i64 tag,.lst fp .sc (strsAV ps),.agg (zac sl),.agg [i64 lo,i64 hi]] []=some (i64 (ckE l p s tag ps sl lo hi),[],[]):=by
 obtain⟨d,rfl⟩:=wM h
 have b1:(zac sl).length=16:=by rw[zab];exact hsl
 have b2:=H.bytes_all sl
 rcases @qem gl (d+9) (by omega) f m l hm hv p s hp hs with ⟨k,hk,c16⟩|⟨hno,c16⟩
 . have e:=qfy hv hk
   have hvk:=(hv.ok k hk.1).v.k
   have c62:=@z2n gl (d+9) (by omega) (yat l k) lo hi
   have c23:=@z0l gl (d+9) _ (by omega) (yat l k) (by omega) tag fp ps hps
   have d1:=zi7 (yat l k).k tag ps
   have d2:=zi8 (yat l k).k tag ps
   have eq:=eqB (zot (yat l k).k tag ps) hsl
   rw[show zac (sea (yat l k).k tag ps)=sAV (yat l k).k tag ps from rfl]at eq
   unfold ckE
   rw[e]
   simp only
   cases hc:cnt (yat l k) lo hi with
   | false =>
     rw[hc]at c62
     rw[zad (fd:=zm4) rfl]
     simp(disch:=apply zq;omega) only[go_sem,simprocAttr,↓Nat.reduceEqDiff,xx,zm4,m118,c16,c62,b1,b2,Bool.false_eq_true]
   | true =>
     rw[hc]at c62
     by_cases hq:sea (yat l k).k tag ps=sl
     . rw[decide_eq_true hq]at eq
       rw[if_pos rfl,if_pos hq]
       generalize sAV (yat l k).k tag ps=z at *
       generalize zac sl=w at *
       rw[zad (fd:=zm4) rfl]
       simp(disch:=apply zq;omega) only[go_sem,simprocAttr,↓Nat.reduceEqDiff,xx,zm4,m118,c16,c62,b1,b2,c23,d1,d2,eq]
     . rw[decide_eq_false hq]at eq
       rw[if_pos rfl,if_neg hq]
       generalize sAV (yat l k).k tag ps=z at *
       generalize zac sl=w at *
       rw[zad (fd:=zm4) rfl]
       simp(disch:=apply zq;omega) only[go_sem,simprocAttr,↓Nat.reduceEqDiff,xx,zm4,m118,c16,c62,b1,b2,c23,d1,d2,eq]
 . unfold ckE
   rw[qfx hno]
   rw[zad (fd:=zm4) rfl]
   simp(disch:=apply zq;omega) only[go_sem,simprocAttr,↓Nat.reduceEqDiff,xx,zm4,m118,c16,b1,b2]
end
end Go.Proofs.S44
namespace Go.Proofs.S44.H
open Go Go.Ev Go.Proofs Go.Proofs.S44
variable {gl :Gl}
def nsI (l:List Int):List AV:=l.map fun n=>.int .i64 n
theorem zal (l:List Int):(nsI l).length=l.length:=by simp[nsI]
theorem zdq {l:List Int}{i:Nat}(h:i<l.length):(nsI l)[i]? =some (.int .i64 l[i]):=by simp[nsI,h]
def zbn (l:List Int):Prop:=l.length<=1000/\∀x∈l,-9223372036854775808<=x/\x<=9223372036854775807
theorem z11 {l:List Int}(h:zbn l){i:Nat}(hi:i<l.length):-9223372036854775808<=l[i]/\l[i]<=9223372036854775807:=h.2 _ (List.getElem_mem hi)
def zam (l:List Int):List UInt8:=zint l.length++(l.map zint).flatten
def zpre (l:List Int)(i:Nat):List UInt8:=zint l.length++((l.take i).map zint).flatten
theorem zyt (l:List Int):zpre l 0=zint l.length:=by simp[zpre]
theorem zh9 (l:List Int):zpre l l.length=zam l:=by simp[zpre,zam]
theorem zys {l:List Int}{i:Nat}(hi:i<l.length):zpre l (i+1)=zpre l i++zint l[i]:=by
 unfold zpre;rw[wG hi,List.map_append,List.flatten_append,<-wF];simp
theorem zkr {l:List Int}:∀{i:Nat},i<=l.length->(zpre l i).length<=10*(i+1)
 | 0,_=>by rw[zyt];have:=zau l.length;omega
 | i+1,h=>by
   have h1:=zkr (l:=l) (i:=i) (by omega)
   have h2:=zau l[i]
   rw[zys (by omega),wE];omega
theorem zints_len {l:List Int}:(zam l).length<=10*(l.length+1):=by rw[<-zh9];exact zkr (Nat.le_refl _)
def LwI :MC:=match m153 with| .seq _ (.seq _ (.seq (.seq _ (.block _ (.loop _ b))) _))=>b|_=>.skip
def SwI (f:Bool)(l:List Int)(i:Nat):St :=
 ⟨[.set 13 (.int .i64 i),.set 12 (.int .i64 l.length),.set 11 (.lst f .sc (nsI l)),.set 5 (.sl 5005 [] 0 (zpre l i).length),.set 1 (.fn 154 [])],[(5005,.grow .sc (zac (zpre l i)))]⟩
theorem ints_ok {n:Nat}(h:3<=n)(f:Bool)(l:List Int)(hl:zbn l):call gl tab n 122 [.lst f .sc (nsI l)] []=some (.sl 20000 [] 0 (zam l).length,[],[.grow .sc (zac (zam l))]):=by
 obtain⟨d,rfl⟩:=wM h
 have h1:=hl.1
 have hs:∀i,i<l.length->zbd [.slot 1,.own 5 5005 .sc,.slot 11,.slot 12,.slot 13] (evC gl (call gl tab (d+1)) LwI (SwI f l i))=some (SwI f l (i+1)):=fun i hi=>by
  have hx:=zdq hi
  have c:=int53_ok (gl:=gl) d l[i] (z11 hl hi)
  have hz:=zau l[i]
  have hp:=zkr (l:=l) (i:=i) (by omega)
  have hL:(zpre l i).length+(zint l[i]).length<=LIM:=by unfold LIM;omega
  rw[SwI,SwI,zys hi,zaf,wE]
  generalize zpre l i=p at *
  generalize zint l[i]=q at *
  simp(disch:=apply zq;omega) only[go_sem,simprocAttr,↓Nat.reduceEqDiff,xx,LwI,m153,hx,zal,c,zab,hL]
 simp only[LwI,m153]at hs
 have c0:=int53_ok (gl:=gl) d (l.length:Int) (by omega)
 have e2:=zab (zam l)
 have cl:call gl tab (d+2) 153 [.lst f .sc (nsI l),.fn 154 []] []=some (.sl 20000 [] 0 (zam l).length,[],[.grow .sc (zac (zam l))]):=by
  rw[zad (fd:=z55) rfl]
  simp(disch:=apply zq;omega) only[go_sem,simprocAttr,↓Nat.reduceEqDiff,xx,z55,m153,zal,c0]
  rw[zag (SwI f l) l.length (by unfold LF;omega)]
  . rw[SwI,zh9]
    simp(disch:=apply zq;omega) only[go_sem,simprocAttr,↓Nat.reduceEqDiff,xx,zal,zab]
  . simp(disch:=apply zq;omega) only[go_sem,simprocAttr,↓Nat.reduceEqDiff,xx,SwI,zyt,zal]
  . exact hs
  . rw[SwI,zh9]
    simp(disch:=apply zq;omega) only[go_sem,simprocAttr,↓Nat.reduceEqDiff,xx,zal,zab]
 rw[zad (fd:=z6m) rfl]
 generalize zam l=z at *
 simp(disch:=apply zq;omega) only[go_sem,simprocAttr,↓Nat.reduceEqDiff,xx,z6m,m122,cl,e2,noImms_bytesAV]
def LrI :MC:=match m127 with| .seq _ (.seq _ (.seq (.seq _ (.block _ (.loop _ b))) _))=>b|_=>.skip
def SrI (f:Bool)(l:List Int)(i:Nat):St :=
 ⟨[.set 4 (.int .i64 i),.set 3 (.sl 5003 [] 0 (zpre l i).length),.set 0 (.lst f .sc (nsI l))],[(5003,.grow .sc (zac (zpre l i)))]⟩
theorem rints_ok {n:Nat}(h:2<=n)(f:Bool)(l:List Int)(hl:zbn l):call gl tab n 127 [.lst f .sc (nsI l)] []=some (.sl 20000 [] 0 (zam l).length,[],[.grow .sc (zac (zam l))]):=by
 obtain⟨d,rfl⟩:=wM h
 have h1:=hl.1
 have hs:∀i,i<l.length->zbd [.slot 0,.own 3 5003 .sc,.slot 4] (evC gl (call gl tab (d+1)) LrI (SrI f l i))=some (SrI f l (i+1)):=fun i hi=>by
  have hx:=zdq hi
  have c:=int54_ok (gl:=gl) d l[i] (z11 hl hi)
  have hz:=zau l[i]
  have hp:=zkr (l:=l) (i:=i) (by omega)
  have hL:(zpre l i).length+(zint l[i]).length<=LIM:=by unfold LIM;omega
  rw[SrI,SrI,zys hi,zaf,wE]
  generalize zpre l i=p at *
  generalize zint l[i]=q at *
  simp(disch:=apply zq;omega) only[go_sem,simprocAttr,↓Nat.reduceEqDiff,xx,LrI,m127,hx,zal,c,zab,hL]
 simp only[LrI,m127]at hs
 have c0:=int54_ok (gl:=gl) d (l.length:Int) (by omega)
 rw[zad (fd:=z6i) rfl]
 simp(disch:=apply zq;omega) only[go_sem,simprocAttr,↓Nat.reduceEqDiff,xx,z6i,m127,zal,c0]
 rw[zag (SrI f l) l.length (by unfold LF;omega)]
 . rw[SrI,zh9]
   simp(disch:=apply zq;omega) only[go_sem,simprocAttr,↓Nat.reduceEqDiff,xx,zal,zab]
 . simp(disch:=apply zq;omega) only[go_sem,simprocAttr,↓Nat.reduceEqDiff,xx,SrI,zyt,zal]
 . exact hs
 . rw[SrI,zh9]
   simp(disch:=apply zq;omega) only[go_sem,simprocAttr,↓Nat.reduceEqDiff,xx,zal,zab]
end Go.Proofs.S44.H
namespace Go.Proofs.S44.H
open Go Go.Ev Go.Proofs Go.Proofs.S44
variable {gl :Gl}
def LtX :MC:=match m157 with| .seq _ (.seq _ (.seq (.seq _ (.block _ (.loop _ b))) _))=>b|_=>.skip
def StX (b:List UInt8)(i:Nat):St :=
 ⟨[.set 4 (.int .i64 i),.set 3 (.sl 5003 [] 0 i),.set 1 (.ptr 1 [])],[(1,.fix (.ar 16 .sc) (.agg (zac b))),(5003,.grow .sc (zac (b.take i)))]⟩
theorem text_ok {n:Nat}(h:1<=n)(b:List UInt8)(hb:b.length=16):call gl tab n 157 [.agg (zac b)] []=some (.str b,[],[]):=by
 obtain⟨d,rfl⟩:=wM h
 have ha:=bytes_all b
 have hl:(zac b).length=16:=by rw[zab];exact hb
 have hs:∀i,i<16->zbd [.slot 1,.own 3 5003 .sc,.slot 4,.key 1] (evC gl (call gl tab d) LtX (StX b i))=some (StX b (i+1)):=fun i hi=>by
  have g:=zd6 (l:=b) (i:=i) (by omega)
  have e:b.take (i+1)=b.take i++[b.getD i 0]:=by
   rw[wG (by omega),List.getD_eq_getElem?_getD,List.getElem?_eq_getElem (by omega)];rfl
  have hp:(zac (b.take i)).length=i:=by rw[zab,List.length_take];omega
  have hL:i+1<=LIM:=by unfold LIM;omega
  rw[StX,StX,e,zaf,show zac [b.getD i 0]=[.int .u8 ((b.getD i 0).toBitVec.toNat:Int)]from rfl]
  generalize zac (b.take i)=p at *
  simp(disch:=apply zq;omega) only[go_sem,simprocAttr,↓Nat.reduceEqDiff,xx,LtX,m157,g,hl,hp,hL]
 simp only[LtX,m157]at hs
 rw[zad (fd:=z52) rfl]
 simp(disch:=apply zq;omega) only[go_sem,simprocAttr,↓Nat.reduceEqDiff,xx,z52,m157,ha,hl]
 rw[zag (StX b) 16 (by unfold LF;omega)]
 . rw[StX,show b.take 16=b from wI (by omega)]
   simp(disch:=apply zq;omega) only[go_sem,simprocAttr,↓Nat.reduceEqDiff,xx,zab,hb]
   rw[show List.take 16 (zac b)=zac b from wI (by omega)]
   simp(disch:=apply zq;omega) only[go_sem,simprocAttr,↓Nat.reduceEqDiff,xx]
 . simp(disch:=apply zq;omega) only[go_sem,simprocAttr,↓Nat.reduceEqDiff,xx,StX,wK];rfl
 . exact hs
 . simp(disch:=apply zq;omega) only[go_sem,simprocAttr,↓Nat.reduceEqDiff,xx,StX,hl]
end Go.Proofs.S44.H
