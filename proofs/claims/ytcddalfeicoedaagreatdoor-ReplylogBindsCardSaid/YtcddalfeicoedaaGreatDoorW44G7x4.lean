/-
  Chapter 4: seals: the parts are put together. No condition.
-/
import Derived.Test.YtcddalfeicoedaaGreatDoorW44G1x4
import Derived.Test.YtcddalfeicoedaaGreatDoorW44G6x4
set_option linter.all false
open List renaming nil_append->wA,cons_append->wB,length_nil->wC,length_cons->wD,length_append->wE,append_assoc->wF,take_succ_eq_append_getElem->wG,map_cons->wH,take_of_length_le->wI,take_zero->wJ,map_nil->wK
open Nat renaming exists_eq_add_of_le'->wL,zero_add->wM
namespace Go.Proofs.S44
open Go Go.Ev Go.Proofs
open Go.Proofs.S44.H (strsAV zaa zaj)
variable {gl :Gl} {n:Nat}
def apL (s:List UInt8)(l:List (List UInt8)):Nat->List (List UInt8)
 | 0=>[]
 | 1=>[s]
 | 2=>s::l
 | _=>s::(l++[s])
abbrev allP (s:List UInt8)(l:List (List UInt8)):List (List UInt8):=s::(l++[s])
theorem qf9 (s:List UInt8)(l:List (List UInt8)):apL s l 0=[]:=rfl
theorem qf8 (s:List UInt8)(l:List (List UInt8)):apL s l 1=[s]:=rfl
theorem qf7 (s:List UInt8)(l:List (List UInt8)):apL s l 2=s::l:=rfl
theorem qb2 (s:List UInt8)(l:List (List UInt8)):apL s l 3=allP s l:=rfl
def filL (N:Nat)(l:List (List UInt8)):List AV:=strsAV l++List.replicate (N-l.length) (.str [])
theorem zer (a b:List (List UInt8)):strsAV (a++b)=strsAV a++strsAV b:=by simp[strsAV]
theorem zks {N:Nat}{l:List (List UInt8)}(h:l.length<=N):(filL N l).length=N:=by simp[filL,zaa];omega
theorem zpj {N:Nat}{a b:List (List UInt8)}(h:a.length+b.length<=N):(filL N a).take a.length++(strsAV b++(filL N a).drop (a.length+b.length))=filL N (a++b):=by
 unfold filL
 rw[List.take_left' (zaa a),zer,wF]
 congr 2
 rw[<-zaa a,List.drop_append,List.drop_eq_nil_of_le (by omega),wA,Nat.add_sub_cancel_left,List.drop_replicate,wE,zaa]
 congr 1;omega
theorem z4y (l:List (List UInt8)):filL l.length l=strsAV l:=by simp[filL]
theorem qe2 (N:Nat):filL N []=List.replicate N (.str []):=by simp[filL,strsAV]
theorem grow_at (h:1<=n){N:Nat}(h0:1<=N)(hN:N<=100000):call gl tab n 174 [.lst true .sc [],i64 N] []=some (.sl 20000 [] 0 0,[],[.grow .sc (filL N [])]):=by
 obtain⟨d,rfl⟩:=wL h
 have hl:N<=LIM:=by unfold LIM;omega
 rw[qe2]
 rw[za3 (fd:=z40) rfl]
 simp(disch:=apply zq;omega) only[go_sem,simprocAttr,↓Nat.reduceEqDiff,xx,z40,m174,hl,wA,Nat.sub_zero]
def szP (l:List (List UInt8)):Nat->Int
 | 0=>0
 | 1=>1
 | 2=>1+l.length
 | _=>1+l.length+1
theorem qcu (l:List (List UInt8)):szP l 0=0:=rfl
theorem qct (l:List (List UInt8)):szP l 1=1:=rfl
theorem qcs (l:List (List UInt8)):szP l 2=1+l.length:=rfl
theorem z77 (l:List (List UInt8)):szP l 3=1+l.length+1:=rfl
def L65 :MC:=match m167 with| .seq _ (.seq _ (.seq (.seq _ (.block _ (.loop _ b))) _))=>b|_=>.skip
def L65b :MC:=match m167 with| .seq _ (.seq _ (.seq _ (.seq _ (.seq (.seq _ (.block _ (.loop _ b))) _))))=>b|_=>.skip
def hp65 (f:Bool)(s:List UInt8)(l:List (List UInt8)):Hp:=[(100002,.grow .sc [.str s]),(100001,.grow .sc [.str s]),(100000,.fix (.ar 3 .sc) (.aggR [.sl 100001 [] 0 1,.lst f .sc (strsAV l),.sl 100002 [] 0 1]))]
def S65 (f:Bool)(s:List UInt8)(l:List (List UInt8))(i:Nat):St :=
 ⟨[.set 11 (i64 i),.set 10 (i64 3),.set 9 (.sl 100000 [] 0 3),.set 3 (i64 (szP l i)),.set 0 (.sl 100000 [] 0 3)],hp65 f s l⟩
def S65b (f:Bool)(s:List UInt8)(l:List (List UInt8))(i:Nat):St :=
 ⟨[.set 27 (i64 i),.set 26 (i64 3),.set 25 (.sl 100000 [] 0 3),.set 6 (.sl 24 [] 0 (apL s l i).length)],hp65 f s l++[(24,.grow .sc (filL (l.length+2) (apL s l i)))]⟩
set_option maxHeartbeats 1000000 in
theorem z12 (h:2<=n)(f:Bool)(s:List UInt8)(l:List (List UInt8))(hl:l.length<=1000) :
  call gl tab n 167 [.sl 100000 [] 0 3] [(100000,.fix (.ar 3 .sc) (.aggR [.sl 100001 [] 0 1,.lst f .sc (strsAV l),.sl 100002 [] 0 1])),(100001,.grow .sc [.str s]),(100002,.grow .sc [.str s])] =
   some (.sl 20000 [] 0 (l.length+2),[(100000,.fix (.ar 3 .sc) (.aggR [.sl 100001 [] 0 1,.lst f .sc (strsAV l),.sl 100002 [] 0 1])),(100001,.grow .sc [.str s]),(100002,.grow .sc [.str s])],[.grow .sc (strsAV (allP s l))]):=by
 obtain⟨d,rfl⟩:=wL h
 have hs:∀i,i<3->zbm [.slot 0,.slot 3,.slot 9,.slot 10,.slot 11] (evC gl (call gl tab (d+1)) L65 (S65 f s l i))=some (S65 f s l (i+1)):=fun i hi=>by
  match i,hi with
  | 0,_=>simp(disch:=apply zq;omega) only[go_sem,simprocAttr,↓Nat.reduceEqDiff,xx,L65,m167,S65,hp65,qcu,qct]
  | 1,_=>simp(disch:=apply zq;omega) only[go_sem,simprocAttr,↓Nat.reduceEqDiff,xx,L65,m167,S65,hp65,qct,qcs,zaa]
  | 2,_=>simp(disch:=apply zq;omega) only[go_sem,simprocAttr,↓Nat.reduceEqDiff,xx,L65,m167,S65,hp65,qcs,z77]
 have hs2:∀i,i<3->zbm [.slot 6,.slot 25,.slot 26,.slot 27,.key 24] (evC gl (call gl tab (d+1)) L65b (S65b f s l i))=some (S65b f s l (i+1)):=fun i hi=>by
  match i,hi with
  | 0,_ =>
    have e:=@zpj (l.length+2) [] [s] (by simp)
    have e2:=@zks (l.length+2) [] (by simp)
    simp only[wC,wD,wA,wM,wJ]at e
    rw[S65b,S65b,qf9,qf8,<-e]
    generalize filL (l.length+2) []=z at *
    simp(disch:=apply zq;omega) only[go_sem,simprocAttr,↓Nat.reduceEqDiff,xx,L65b,m167,hp65,false_and,decide_false,e2,wB,wA,strsAV,wH,wK,wD,wC]
  | 1,_ =>
    have e:=@zpj (l.length+2) [s] l (by simp;omega)
    have e2:=@zks (l.length+2) [s] (by simp)
    simp only[wC,wD,wA,wM,List.singleton_append]at e
    rw[S65b,S65b,qf8,qf7,<-e]
    generalize filL (l.length+2) [s]=z at *
    have c7:1+l.length=l.length+1:=by omega
    simp(disch:=apply zq;omega) only[go_sem,simprocAttr,↓Nat.reduceEqDiff,xx,c7,L65b,m167,hp65,false_and,decide_false,e2,wB,wA,zaa,wD,wC,wF]
  | 2,_ =>
    have e:=@zpj (l.length+2) (s::l) [s] (by simp)
    have e2:=@zks (l.length+2) (s::l) (by simp)
    simp only[wC,wD,wA,wM,wB]at e
    rw[S65b,S65b,qf7,qb2,<-e]
    generalize filL (l.length+2) (s::l)=z at *
    simp(disch:=apply zq;omega) only[go_sem,simprocAttr,↓Nat.reduceEqDiff,xx,L65b,m167,hp65,false_and,decide_false,e2,wB,wA,strsAV,wH,wK,wD,wC,wF,wE]
 simp only[L65,m167]at hs
 simp only[L65b,m167]at hs2
 have c89:=@grow_at gl (d+1) (by omega) (l.length+2) (by omega) (by omega)
 rw[show((l.length+2:Nat):Int)=(l.length:Int)+2 by omega]at c89
 have c8:(1:Int)+l.length+1=(l.length:Int)+2:=by omega
 have e:=z4y (allP s l)
 have e2:(allP s l).length=l.length+2:=by simp
 rw[e2]at e
 have e3:=zks (N:=l.length+2) (l:=allP s l) (by simp)
 rw[<-e]
 rw[za3 (fd:=z47) rfl]
 simp(disch:=apply zq;omega) only[go_sem,simprocAttr,↓Nat.reduceEqDiff,xx,z47,m167]
 rw[zam (S65 f s l) 3 (by unfold LF;omega)]
 . rw[S65,z77,c8]
   simp(disch:=apply zq;omega) only[go_sem,simprocAttr,↓Nat.reduceEqDiff,xx,hp65,c89]
   rw[zam (S65b f s l) 3 (by unfold LF;omega)]
   . rw[S65b,qb2]
     generalize filL (l.length+2) (allP s l)=z at *
     simp(disch:=apply zq;omega) only[go_sem,simprocAttr,↓Nat.reduceEqDiff,xx,hp65,wB,wA,e2,e3]
   . rw[S65b,qf9]
     generalize filL (l.length+2) []=z at *
     simp(disch:=apply zq;omega) only[go_sem,simprocAttr,↓Nat.reduceEqDiff,xx,hp65,wB,wA,wC]
   . exact hs2
   . rw[S65b,qb2]
     generalize filL (l.length+2) (allP s l)=z at *
     simp(disch:=apply zq;omega) only[go_sem,simprocAttr,↓Nat.reduceEqDiff,xx,hp65,wB,wA,e2,e3]
 . simp(disch:=apply zq;omega) only[go_sem,simprocAttr,↓Nat.reduceEqDiff,xx,S65,hp65,qcu]
 . exact hs
 . simp(disch:=apply zq;omega) only[go_sem,simprocAttr,↓Nat.reduceEqDiff,xx,S65,hp65,z77]
end Go.Proofs.S44
namespace Go.Proofs.S44
open Go Go.Ev Go.Proofs
open Go.Proofs.S44.H (strsAV zaa zaj Sml GlK GlR)
variable {gl :Gl} {n:Nat}
def Pts (l:List (List UInt8)):Prop:=l.length<=100/\∀x∈l,x.length<=1048576
theorem Pts.all {s:List UInt8}{l:List (List UInt8)}(h:Pts l)(hs:s.length<=1048576):Sml (allP s l):=by
 refine⟨by have:=h.1;simp;omega,fun x hx=> ?_⟩
 simp only[allP,List.mem_cons,List.mem_append,List.not_mem_nil,or_false]at hx
 rcases hx with rfl|hx|rfl
 . exact hs
 . exact h.2 x hx
 . exact hs
def sea (k:List UInt8)(tag:Int)(l:List (List UInt8)):List UInt8:=H.dig (H.inp tag (allP k l))
theorem zok (k:List UInt8)(tag:Int)(l:List (List UInt8)):(sea k tag l).length=16:=H.dig_len _
def sAV (k:List UInt8)(tag:Int)(l:List (List UInt8)):List AV:=zac (sea k tag l)
theorem zol (k:List UInt8)(tag:Int)(l:List (List UInt8)):(sAV k tag l).length=16:=by rw[sAV,zab,zok]
theorem out16_eq :List.replicate 16 (AV.int .u8 0)=H.out16l:=rfl
theorem zom (k:List UInt8)(tag:Int)(l:List (List UInt8)):(sAV k tag l).all AV.scalar=true:=H.bytes_all _
theorem zyx (k:List UInt8)(tag:Int)(l:List (List UInt8)):zdt (sAV k tag l)=true:=H.noImms_bytesAV _
theorem zzw [Nonempty (GlK gl)](h:8<=n)(x:Ky)(hx:x.k.length<=1048576)(tag:Int)(f:Bool)(l:List (List UInt8))(hl:Pts l) :
  call gl tab n 150 [ky x,i64 tag,.lst f .sc (strsAV l)] []=some (.agg (sAV x.k tag l),[],[]):=by
 obtain⟨d,rfl⟩:=wL h
 have c65:=@z12 gl (d+7) (by omega) f x.k l (by have:=hl.1;omega)
 have c64:=@H.of_at gl _ (d+6) (by omega) tag false (allP x.k l) (hl.all hx)
 have e1:(strsAV (allP x.k l)).length=l.length+2:=by rw[zaa];simp
 have e2:List.take (l.length+2) (strsAV (allP x.k l))=strsAV (allP x.k l):=by rw[<-e1];exact List.take_length
 have d1:=zol x.k tag l
 have d2:=zom x.k tag l
 have d3:=zyx x.k tag l
 rw[show zac (H.dig (H.inp tag (allP x.k l)))=sAV x.k tag l from rfl]at c64
 generalize sAV x.k tag l=z at *
 generalize strsAV (allP x.k l)=w at *
 rw[zaf (fd:=z5d) rfl]
 simp(disch:=apply zq;omega) only[go_sem,simprocAttr,↓Nat.reduceEqDiff,xx,z5d,m150,↓out16_eq,H.out16_len,H.out16_all,H.out16_pl,c65,c64,e1,e2,d1,d2,d3]
end Go.Proofs.S44
namespace Go.Proofs.S44
open Go Go.Ev Go.Proofs
open Go.Proofs.S44.H (strsAV zaa zaj Sml GlK GlR)
variable {gl :Gl} {n:Nat}
theorem eqB_all :∀(a b:List UInt8),a.length=b.length->zpo ((zac a).zip (zac b)) (fun p=>eqAV .it p.1 p.2)=some (decide (a=b))
 | [],[],_=>rfl
 | x::a,y::b,h=>by
   have ih:=eqB_all a b (by simpa using h)
   simp only[zac,wH,List.zip_cons_cons,zpo,eqAV,if_pos,Option.bind_some]
   simp only[zac]at ih
   rw[ih]
   by_cases e:x=y
   . subst e;simp
   . have:((x.toNat:Int)==(y.toNat:Int))=false:=by
      rw[beq_eq_false_iff_ne];intro h2
      exact e (UInt8.toNat_inj.1 (by omega))
     rw[this];simp[e]
 | [],_::_,h=>by simp at h
 | _::_,[],h=>by simp at h
theorem eqB {a b:List UInt8}(ha:a.length=16)(hb:b.length=16):eqAV (.ar 16 .it) (.agg (zac a)) (.agg (zac b))=some (decide (a=b)):=by
 have:=eqB_all a b (by omega)
 rw[eqAV,if_pos ⟨by rw[zab];exact ha,by rw[zab];exact hb⟩]
 exact this
def fnK (l:List Ky)(p s:Int):Option Ky:=l.find? fun x=>x.p==p&&x.s==s
theorem qe1 {l:List Ky}(hv:VR l){p s:Int}{k:Nat}(hk:Is l p s k):fnK l p s=some (yat l k):=by
 unfold fnK
 rw[List.find?_eq_some_iff_getElem]
 refine⟨by rw[Bool.and_eq_true,beq_iff_eq,beq_iff_eq];exact hk.2,k,hk.1,(zp2 hk.1).symm,fun j hj=> ?_⟩
 have hj2:j<l.length:=by have:=hk.1;omega
 rw[Bool.not_eq_true',Bool.and_eq_false_iff]
 by_cases h1:l[j].p=p
 . right;rw[beq_eq_false_iff_ne];intro h2
   have:=z7e hv ⟨hj2,by rw[zp2 hj2];exact h1,by rw[zp2 hj2];exact h2⟩ hk
   omega
 . left;rw[beq_eq_false_iff_ne];exact h1
theorem qe0 {l:List Ky}{p s:Int}(hk:∀k,¬Is l p s k):fnK l p s=none:=by
 unfold fnK
 rw[List.find?_eq_none]
 intro x hx
 obtain⟨j,hj,rfl⟩:=List.getElem_of_mem hx
 rw[Bool.and_eq_true,beq_iff_eq,beq_iff_eq]
 rintro ⟨h1,h2⟩
 exact hk j ⟨hj,by rw[zp2 hj];exact h1,by rw[zp2 hj];exact h2⟩
def ckE (l:List Ky)(p s tag:Int)(ps:List (List UInt8))(sl:List UInt8)(lo hi:Int):Int :=
 match fnK l p s with
 | none=>5
 | some x=>if cnt x lo hi=true then(if sea x.k tag ps=sl then 0 else 8)else 9
section
variable {f :Bool} {m:Sh} {l:List Ky} {p s:Int} {sl:List UInt8} {ps:List (List UInt8)} {fp:Bool}
theorem z6o [Nonempty (GlK gl)](h:10<=n)(hm:Mk l m)(hv:VR l)(hp:R64 p)(hs:R64 s)(tag:Int)(hps:Pts ps)(hsl:sl.length=16)(lo hi:Int) :
  call gl tab n 118 [.lst f m (ks l),i64 p,i64 s,i64 tag,.lst fp .sc (strsAV ps),.agg (zac sl),.agg [i64 lo,i64 hi]] []=some (i64 (ckE l p s tag ps sl lo hi),[],[]):=by
 obtain⟨d,rfl⟩:=wL h
 have b1:(zac sl).length=16:=by rw[zab];exact hsl
 have b2:=H.bytes_all sl
 rcases @qdq gl (d+9) (by omega) f m l hm hv p s hp hs with ⟨k,hk,c16⟩|⟨hno,c16⟩
 . have e:=qe1 hv hk
   have hvk:=(hv.ok k hk.1).v.k
   have c62:=@z11 gl (d+9) (by omega) (yat l k) lo hi
   have c23:=@zzw gl (d+9) _ (by omega) (yat l k) (by omega) tag fp ps hps
   have d1:=zol (yat l k).k tag ps
   have d2:=zom (yat l k).k tag ps
   have eq:=eqB (zok (yat l k).k tag ps) hsl
   rw[show zac (sea (yat l k).k tag ps)=sAV (yat l k).k tag ps from rfl]at eq
   unfold ckE
   rw[e]
   simp only
   cases hc:cnt (yat l k) lo hi with
   | false =>
     rw[hc]at c62
     rw[zaf (fd:=zmt) rfl]
     simp(disch:=apply zq;omega) only[go_sem,simprocAttr,↓Nat.reduceEqDiff,xx,zmt,m118,c16,c62,b1,b2,Bool.false_eq_true]
   | true =>
     rw[hc]at c62
     by_cases hq:sea (yat l k).k tag ps=sl
     . rw[decide_eq_true hq]at eq
       rw[if_pos rfl,if_pos hq]
       generalize sAV (yat l k).k tag ps=z at *
       generalize zac sl=w at *
       rw[zaf (fd:=zmt) rfl]
       simp(disch:=apply zq;omega) only[go_sem,simprocAttr,↓Nat.reduceEqDiff,xx,zmt,m118,c16,c62,b1,b2,c23,d1,d2,eq]
     . rw[decide_eq_false hq]at eq
       rw[if_pos rfl,if_neg hq]
       generalize sAV (yat l k).k tag ps=z at *
       generalize zac sl=w at *
       rw[zaf (fd:=zmt) rfl]
       simp(disch:=apply zq;omega) only[go_sem,simprocAttr,↓Nat.reduceEqDiff,xx,zmt,m118,c16,c62,b1,b2,c23,d1,d2,eq]
 . unfold ckE
   rw[qe0 hno]
   rw[zaf (fd:=zmt) rfl]
   simp(disch:=apply zq;omega) only[go_sem,simprocAttr,↓Nat.reduceEqDiff,xx,zmt,m118,c16,b1,b2]
end
end Go.Proofs.S44
namespace Go.Proofs.S44.H
open Go Go.Ev Go.Proofs Go.Proofs.S44
variable {gl :Gl}
def nsI (l:List Int):List AV:=l.map fun n=>.int .i64 n
theorem zak (l:List Int):(nsI l).length=l.length:=by simp[nsI]
theorem zem {l:List Int}{i:Nat}(h:i<l.length):(nsI l)[i]? =some (.int .i64 l[i]):=by simp[nsI,h]
def zbk (l:List Int):Prop:=l.length<=1000/\∀x∈l,-9223372036854775808<=x/\x<=9223372036854775807
theorem z1d {l:List Int}(h:zbk l){i:Nat}(hi:i<l.length):-9223372036854775808<=l[i]/\l[i]<=9223372036854775807:=h.2 _ (List.getElem_mem hi)
def zal (l:List Int):List UInt8:=zint l.length++(l.map zint).flatten
def zpre (l:List Int)(i:Nat):List UInt8:=zint l.length++((l.take i).map zint).flatten
theorem zx7 (l:List Int):zpre l 0=zint l.length:=by simp[zpre]
theorem zh8 (l:List Int):zpre l l.length=zal l:=by simp[zpre,zal]
theorem zx6 {l:List Int}{i:Nat}(hi:i<l.length):zpre l (i+1)=zpre l i++zint l[i]:=by
 unfold zpre;rw[wG hi,List.map_append,List.flatten_append,<-wF];simp
theorem zkg {l:List Int}:∀{i:Nat},i<=l.length->(zpre l i).length<=10*(i+1)
 | 0,_=>by rw[zx7];have:=zat l.length;omega
 | i+1,h=>by
   have h1:=zkg (l:=l) (i:=i) (by omega)
   have h2:=zat l[i]
   rw[zx6 (by omega),wE];omega
theorem zints_len {l:List Int}:(zal l).length<=10*(l.length+1):=by rw[<-zh8];exact zkg (Nat.le_refl _)
def LwI :MC:=match m153 with| .seq _ (.seq _ (.seq (.seq _ (.block _ (.loop _ b))) _))=>b|_=>.skip
def SwI (f:Bool)(l:List Int)(i:Nat):St :=
 ⟨[.set 13 (.int .i64 i),.set 12 (.int .i64 l.length),.set 11 (.lst f .sc (nsI l)),.set 5 (.sl 5005 [] 0 (zpre l i).length),.set 1 (.fn 154 [])],[(5005,.grow .sc (zac (zpre l i)))]⟩
theorem ints_ok {n:Nat}(h:3<=n)(f:Bool)(l:List Int)(hl:zbk l):call gl tab n 122 [.lst f .sc (nsI l)] []=some (.sl 20000 [] 0 (zal l).length,[],[.grow .sc (zac (zal l))]):=by
 obtain⟨d,rfl⟩:=wL h
 have h1:=hl.1
 have hs:∀i,i<l.length->zbm [.slot 1,.own 5 5005 .sc,.slot 11,.slot 12,.slot 13] (evC gl (call gl tab (d+1)) LwI (SwI f l i))=some (SwI f l (i+1)):=fun i hi=>by
  have hx:=zem hi
  have c:=int53_ok (gl:=gl) d l[i] (z1d hl hi)
  have hz:=zat l[i]
  have hp:=zkg (l:=l) (i:=i) (by omega)
  have hL:(zpre l i).length+(zint l[i]).length<=LIM:=by unfold LIM;omega
  rw[SwI,SwI,zx6 hi,zae,wE]
  generalize zpre l i=p at *
  generalize zint l[i]=q at *
  simp(disch:=apply zq;omega) only[go_sem,simprocAttr,↓Nat.reduceEqDiff,xx,LwI,m153,hx,zak,c,zab,hL]
 simp only[LwI,m153]at hs
 have c0:=int53_ok (gl:=gl) d (l.length:Int) (by omega)
 have e2:=zab (zal l)
 have cl:call gl tab (d+2) 153 [.lst f .sc (nsI l),.fn 154 []] []=some (.sl 20000 [] 0 (zal l).length,[],[.grow .sc (zac (zal l))]):=by
  rw[zaf (fd:=z5c) rfl]
  simp(disch:=apply zq;omega) only[go_sem,simprocAttr,↓Nat.reduceEqDiff,xx,z5c,m153,zak,c0]
  rw[zam (SwI f l) l.length (by unfold LF;omega)]
  . rw[SwI,zh8]
    simp(disch:=apply zq;omega) only[go_sem,simprocAttr,↓Nat.reduceEqDiff,xx,zak,zab]
  . simp(disch:=apply zq;omega) only[go_sem,simprocAttr,↓Nat.reduceEqDiff,xx,SwI,zx7,zak]
  . exact hs
  . rw[SwI,zh8]
    simp(disch:=apply zq;omega) only[go_sem,simprocAttr,↓Nat.reduceEqDiff,xx,zak,zab]
 rw[zaf (fd:=z5s) rfl]
 generalize zal l=z at *
 simp(disch:=apply zq;omega) only[go_sem,simprocAttr,↓Nat.reduceEqDiff,xx,z5s,m122,cl,e2,noImms_bytesAV]
def LrI :MC:=match m127 with| .seq _ (.seq _ (.seq (.seq _ (.block _ (.loop _ b))) _))=>b|_=>.skip
def SrI (f:Bool)(l:List Int)(i:Nat):St :=
 ⟨[.set 4 (.int .i64 i),.set 3 (.sl 5003 [] 0 (zpre l i).length),.set 0 (.lst f .sc (nsI l))],[(5003,.grow .sc (zac (zpre l i)))]⟩
theorem rints_ok {n:Nat}(h:2<=n)(f:Bool)(l:List Int)(hl:zbk l):call gl tab n 127 [.lst f .sc (nsI l)] []=some (.sl 20000 [] 0 (zal l).length,[],[.grow .sc (zac (zal l))]):=by
 obtain⟨d,rfl⟩:=wL h
 have h1:=hl.1
 have hs:∀i,i<l.length->zbm [.slot 0,.own 3 5003 .sc,.slot 4] (evC gl (call gl tab (d+1)) LrI (SrI f l i))=some (SrI f l (i+1)):=fun i hi=>by
  have hx:=zem hi
  have c:=int54_ok (gl:=gl) d l[i] (z1d hl hi)
  have hz:=zat l[i]
  have hp:=zkg (l:=l) (i:=i) (by omega)
  have hL:(zpre l i).length+(zint l[i]).length<=LIM:=by unfold LIM;omega
  rw[SrI,SrI,zx6 hi,zae,wE]
  generalize zpre l i=p at *
  generalize zint l[i]=q at *
  simp(disch:=apply zq;omega) only[go_sem,simprocAttr,↓Nat.reduceEqDiff,xx,LrI,m127,hx,zak,c,zab,hL]
 simp only[LrI,m127]at hs
 have c0:=int54_ok (gl:=gl) d (l.length:Int) (by omega)
 rw[zaf (fd:=z5o) rfl]
 simp(disch:=apply zq;omega) only[go_sem,simprocAttr,↓Nat.reduceEqDiff,xx,z5o,m127,zak,c0]
 rw[zam (SrI f l) l.length (by unfold LF;omega)]
 . rw[SrI,zh8]
   simp(disch:=apply zq;omega) only[go_sem,simprocAttr,↓Nat.reduceEqDiff,xx,zak,zab]
 . simp(disch:=apply zq;omega) only[go_sem,simprocAttr,↓Nat.reduceEqDiff,xx,SrI,zx7,zak]
 . exact hs
 . rw[SrI,zh8]
   simp(disch:=apply zq;omega) only[go_sem,simprocAttr,↓Nat.reduceEqDiff,xx,zak,zab]
end Go.Proofs.S44.H
namespace Go.Proofs.S44.H
open Go Go.Ev Go.Proofs Go.Proofs.S44
variable {gl :Gl}
def LtX :MC:=match m157 with| .seq _ (.seq _ (.seq (.seq _ (.block _ (.loop _ b))) _))=>b|_=>.skip
def StX (b:List UInt8)(i:Nat):St :=
 ⟨[.set 4 (.int .i64 i),.set 3 (.sl 5003 [] 0 i),.set 1 (.ptr 1 [])],[(1,.fix (.ar 16 .sc) (.agg (zac b))),(5003,.grow .sc (zac (b.take i)))]⟩
theorem text_ok {n:Nat}(h:1<=n)(b:List UInt8)(hb:b.length=16):call gl tab n 157 [.agg (zac b)] []=some (.str b,[],[]):=by
 obtain⟨d,rfl⟩:=wL h
 have ha:=bytes_all b
 have hl:(zac b).length=16:=by rw[zab];exact hb
 have hs:∀i,i<16->zbm [.slot 1,.own 3 5003 .sc,.slot 4,.key 1] (evC gl (call gl tab d) LtX (StX b i))=some (StX b (i+1)):=fun i hi=>by
  have g:=zdy (l:=b) (i:=i) (by omega)
  have e:b.take (i+1)=b.take i++[b.getD i 0]:=by
   rw[wG (by omega),List.getD_eq_getElem?_getD,List.getElem?_eq_getElem (by omega)];rfl
  have hp:(zac (b.take i)).length=i:=by rw[zab,List.length_take];omega
  have hL:i+1<=LIM:=by unfold LIM;omega
  rw[StX,StX,e,zae,show zac [b.getD i 0]=[.int .u8 ((b.getD i 0).toBitVec.toNat:Int)]from rfl]
  generalize zac (b.take i)=p at *
  simp(disch:=apply zq;omega) only[go_sem,simprocAttr,↓Nat.reduceEqDiff,xx,LtX,m157,g,hl,hp,hL]
 simp only[LtX,m157]at hs
 rw[zaf (fd:=z49) rfl]
 simp(disch:=apply zq;omega) only[go_sem,simprocAttr,↓Nat.reduceEqDiff,xx,z49,m157,ha,hl]
 rw[zam (StX b) 16 (by unfold LF;omega)]
 . rw[StX,show b.take 16=b from wI (by omega)]
   simp(disch:=apply zq;omega) only[go_sem,simprocAttr,↓Nat.reduceEqDiff,xx,zab,hb]
   rw[show List.take 16 (zac b)=zac b from wI (by omega)]
   simp(disch:=apply zq;omega) only[go_sem,simprocAttr,↓Nat.reduceEqDiff,xx]
 . simp(disch:=apply zq;omega) only[go_sem,simprocAttr,↓Nat.reduceEqDiff,xx,StX,wJ];rfl
 . exact hs
 . simp(disch:=apply zq;omega) only[go_sem,simprocAttr,↓Nat.reduceEqDiff,xx,StX,hl]
end Go.Proofs.S44.H
