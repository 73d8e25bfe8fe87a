/-
  Chapter 17: which shelves are valid, by the program. No condition.
-/
import Derived.Test.YthipjfnealbheaaGreatDoorW97G16x4
set_option linter.all false
open Nat renaming exists_eq_add_of_le'->wB,not_lt_zero->wC,lt_or_ge->wD
namespace Go.Proofs.S97
open Go Go.Ev Go.Proofs Go.Proofs.S97.Q
variable {gl :Gl} {n:Nat}
open Go.Mp (esT fI gT addT delT Dis Brn)
abbrev fP (t:Int)(m:List (Int×Int×Nat)):Option (Nat×AV):=(fI t m).map fun p=>(p.1,i64 p.2)
theorem ztj (t:Int)(m:List (Int×Int×Nat)):zrg false (i64 0) (fP t m)=i64 (gT t m):=by
 unfold gT fP
 cases fI t m<;>rfl
theorem z4o {t z:Int}{m:List (Int×Int×Nat)}(hb:Brn m 0) :
  updE (esT m) m.length (i64 t) (i64 (gT t m+z)) (fP t m)= .mp (esT (addT t z m 0)) (addT t z m 0).length:=by
 unfold gT fP
 cases h:fI t m with
 | none =>
   rw[Mp.addT_none h,Option.map_none,Option.map_none,z8u]
   simp[Mp.esT]
 | some p =>
   obtain⟨j,s⟩:=p
   have hj:=Mp.fI_lt h
   simp only[Option.map_some,z8t,Option.getD_some]
   rw[Mp.bornE_esT hb hj]
   have e:(addT t z m 0).length=m.length:=by rw[Mp.addT_some h];simp
   rw[e]
   congr 1
   rw[Mp.addT_some h]
   obtain⟨b,hb'⟩:=Mp.fI_some h
   have hbj:=hb j _ hb'
   unfold Mp.esT
   apply List.ext_getElem
   . simp
   . intro l h1 h2
     simp only[List.getElem_map,List.getElem_set,List.getElem_modify]
     by_cases hjl:j=l
     . subst hjl
       rw[if_pos rfl,if_pos rfl]
       have:=List.getElem?_eq_some_iff.1 hb'
       obtain⟨_,e2⟩:=this
       rw[e2]
       simp at hbj
       simp[hbj]
     . rw[if_neg hjl,if_neg hjl]
def mpL (l:List Ob):Nat->List (Int×Int×Nat)
 | 0=>[]
 | i+1=>addT (oat l i).tn (oat l i).sz (mpL l i) 0
theorem qcb (l:List Ob)(i:Nat):mpL l (i+1)=addT (oat l i).tn (oat l i).sz (mpL l i) 0:=rfl
theorem z02 (l:List Ob):∀i,Brn (mpL l i) 0
 | 0=>fun i e h=>by simp[mpL]at h
 | i+1=>Mp.addT_brn (z02 l i)
theorem z01 (l:List Ob):∀i,Dis (mpL l i)
 | 0=>List.Pairwise.nil
 | i+1=>Dis.add (z01 l i)
theorem zva (l:List Ob)(q:Int):∀i,gT q (mpL l i)=usd l q i
 | 0=>rfl
 | i+1=>by
   rw[qcb,Mp.gT_add,zva l q i,usd]
   by_cases h:(oat l i).tn=q
   . rw[if_pos h.symm,if_pos h]
   . rw[if_neg (fun x=>h x.symm),if_neg h]
theorem ztg (l:List Ob)(q:Int):∀i,fI q (mpL l i)=none↔∀j,j<i->(oat l j).tn≠q
 | 0=>⟨fun _ j h=>absurd h (wC _),fun _=>rfl⟩
 | i+1=>by
   rw[qcb,Mp.fI_add,ztg l q i]
   constructor
   . rintro ⟨h1,h2⟩ j hj
     rcases wD j i with h|h
     . exact h1 j h
     . rw[show j=i by omega];exact fun x=>h2 x.symm
   . intro h
     exact⟨fun j hj=>h j (by omega),fun x=>h i (by omega) x.symm⟩
def dlA (A:List A3)(m:List (Int×Int×Nat)):Nat->List (Int×Int×Nat)
 | 0=>m
 | k+1=>delT (aat A k).t (dlA A m k)
theorem qds (A:List A3)(m:List (Int×Int×Nat))(k:Nat):dlA A m (k+1)=delT (aat A k).t (dlA A m k):=rfl
theorem z3n (A:List A3){m:List (Int×Int×Nat)}(h:Dis m):∀k,Dis (dlA A m k)
 | 0=>h
 | k+1=>Dis.del (z3n A h k)
theorem z3m {A:List A3}{m:List (Int×Int×Nat)}{q:Int}:∀{k:Nat},(∀j,j<k->(aat A j).t≠q)->gT q (dlA A m k)=gT q m
 | 0,_=>rfl
 | k+1,h=>by rw[qds,Mp.gT_del (fun x=>h k (by omega) x.symm),z3m fun j hj=>h j (by omega)]
theorem zt4 {A:List A3}{m:List (Int×Int×Nat)}{e:Int×Int×Nat}:∀{k:Nat},e∈dlA A m k↔e∈m/\∀j,j<k->(aat A j).t≠e.1
 | 0=>⟨fun h=>⟨h,fun j hj=>absurd hj (wC _)⟩,fun h=>h.1⟩
 | k+1=>by
   rw[qds,Mp.delT,List.mem_filter,zt4]
   simp only[decide_eq_true_eq]
   constructor
   . rintro ⟨⟨h1,h2⟩,h3⟩
     refine⟨h1,fun j hj=> ?_⟩
     rcases wD j k with h|h
     . exact h2 j h
     . rw[show j=k by omega];exact fun x=>h3 x.symm
   . rintro ⟨h1,h2⟩
     exact⟨⟨h1,fun j hj=>h2 j (by omega)⟩,fun x=>h2 k (by omega) x.symm⟩
theorem zt2 :esT []=[]:=rfl
theorem qdn (m:List (Int×Int×Nat)):(esT m).length=m.length:=Mp.esT_length m
theorem qdt {A:List A3}{l:List Ob}(N:Nat):dlA A (mpL l N) A.length=[]↔∀j,j<N->∃k,k<A.length/\(aat A k).t=(oat l j).tn:=by
 rw[List.eq_nil_iff_forall_not_mem]
 constructor
 . intro h j hj
   refine Classical.byContradiction fun hc=> ?_
   have hk:∀k,k<A.length->(aat A k).t≠(oat l j).tn:=fun k hk e=>hc ⟨k,hk,e⟩
   cases hf:fI (oat l j).tn (mpL l N)with
   | none=>exact(ztg l _ N).1 hf j hj rfl
   | some p =>
     obtain⟨b,hb⟩:=Mp.fI_some hf
     exact h _ (zt4.2 ⟨List.mem_of_getElem? hb,hk⟩)
 . intro h e he
   obtain⟨h1,h2⟩:=zt4.1 he
   have hn:¬fI e.1 (mpL l N)=none:=fun x=>Mp.fI_none.1 x e h1 rfl
   rw[ztg]at hn
   simp only[Classical.not_forall,Classical.not_not]at hn
   obtain⟨j,hj,ht⟩:=hn
   obtain⟨k,hk,hk2⟩:=h j hj
   exact h2 k hk (hk2.trans ht)
structure HOk1 (S:Sf)(i:Nat):Prop where
 r:ROk (oat S.H i)
 o:0<i->Bl.lt (oat S.H (i-1)).nm (oat S.H i).nm=true
def L11a :MC:=match m20 with| .seq _ (.seq _ (.seq _ (.seq (.seq _ (.block _ (.loop _ b))) _)))=>b|_=>.skip
def L11b :MC:=match m20 with| .seq _ (.seq _ (.seq _ (.seq _ (.seq (.seq _ (.block _ (.loop _ b))) _))))=>b|_=>.skip
def S11a (S:Sf)(q:Fl)(i:Nat):St:=⟨[.set 38 (i64 i),.set 37 (i64 S.H.length),.set 36 (.lst q.fh q.mh (hs S.H)),.set 3 (.mp 34),.set 1 (.ptr 1 [])],[(34,.mp (esT (mpL S.H i)) (mpL S.H i).length),(1,.fix shB (sfV S q))]⟩
def S11b (S:Sf)(q:Fl)(k:Nat):St:=⟨[.set 73 (i64 k),.set 72 (i64 S.A.length),.set 71 (.lst q.fa q.ma (ac S.A)),.set 3 (.mp 34),.set 1 (.ptr 1 [])],[(34,.mp (esT (dlA S.A (mpL S.H S.H.length) k)) (mpL S.H S.H.length).length),(1,.fix shB (sfV S q))]⟩
section
variable {d :Nat} {S:Sf} {q:Fl}
theorem zzq (hq:FlOk S q)(hh:S.H.length<=4096){i:Nat}(hi:i<S.H.length)(hR:∀j,j<i->ROk (oat S.H j))(hp:HOk1 S i) :
  zba [.slot 1,.slot 3,.slot 36,.slot 37,.slot 38,.key 1,.key 34] (evC gl (call gl tab (d+1)) L11a (S11a S q i))=some (S11a S q (i+1)):=by
 have hx:=zdu hi
 have hm:=hq.h.eq hi
 obtain⟨b,hb,c1⟩:=@zkw gl (d+1) (by omega) (oat S.H i)
 rw[hb.2 hp.r]at c1
 have hbd:0<=gT (oat S.H i).tn (mpL S.H i)/\gT (oat S.H i).tn (mpL S.H i)<=(i:Int)*1099511627776:=by
  rw[zva]
  have:∀k,k<=i->0<=usd S.H (oat S.H i).tn k/\usd S.H (oat S.H i).tn k<=(k:Int)*1099511627776:=by
   intro k
   induction k with
   | zero=>intro _;simp[usd]
   | succ k ih =>
     intro hk
     have h1:=ih (by omega)
     have h3:=(hR k (by omega)).sz
     by_cases h:(oat S.H k).tn=(oat S.H i).tn
     . rw[qab h];omega
     . rw[qac h];omega
  exact this i (Nat.le_refl _)
 have hz:=hp.r.sz
 have c2:=Mp.find_esT (oat S.H i).tn (mpL S.H i)
 have c3:=ztj (oat S.H i).tn (mpL S.H i)
 have c4:=@z4o (oat S.H i).tn (oat S.H i).sz (mpL S.H i) (z02 S.H i)
 rw[<-qcb]at c4
 generalize gT (oat S.H i).tn (mpL S.H i)=g at *
 cases i with
 | zero=>simp(disch:=apply zq;omega) only[go_sem,simprocAttr,↓Nat.reduceEqDiff,xx,L11a,m20,S11a,zaa,hx,hm,c1,c2,c3,c4]
 | succ j =>
   have hx':=zdu (show j<S.H.length by omega)
   have ho:=hp.o (by omega)
   rw[show j+1-1=j by omega]at ho
   have ho':=Bl.asymm ho
   simp(disch:=apply zq;omega) only[go_sem,simprocAttr,↓Nat.reduceEqDiff,xx,L11a,m20,S11a,zaa,hx,hx',hm,c1,c2,c3,c4,sub1,zsb,ho,ho']
theorem qdj (hq:FlOk S q)(hh:S.H.length<=4096){i:Nat}(hi:i<S.H.length)(hp:¬HOk1 S i) :
  out1 2 (evC gl (call gl tab (d+1)) L11a (S11a S q i))=some (.ret,.bool false):=by
 have hx:=zdu hi
 have hm:=hq.h.eq hi
 obtain⟨b,hb,c1⟩:=@zkw gl (d+1) (by omega) (oat S.H i)
 cases b with
 | false=>cases i<;>simp(disch:=apply zq;omega) only[go_sem,simprocAttr,↓Nat.reduceEqDiff,xx,L11a,m20,S11a,zaa,hx,hm,c1]
 | true =>
 have hr:=hb.1 rfl
 cases i with
 | zero=>exact absurd ⟨hr,fun h=>absurd h (by omega)⟩ hp
 | succ j =>
   have hx':=zdu (show j<S.H.length by omega)
   cases ho:Bl.lt (oat S.H j).nm (oat S.H (j+1)).nm with
   | false=>simp(disch:=apply zq;omega) only[go_sem,simprocAttr,↓Nat.reduceEqDiff,xx,L11a,m20,S11a,zaa,hx,hx',hm,c1,sub1,zsb,ho]
   | true=>exact absurd ⟨hr,fun _=>ho⟩ hp
theorem zzp (hq:FlOk S q)(ha:VA S.A){i:Nat}(hi:i<S.A.length)(hp:(aat S.A i).u=usd S.H (aat S.A i).t S.H.length) :
  zba [.slot 1,.slot 3,.slot 71,.slot 72,.slot 73,.key 1,.key 34] (evC gl (call gl tab (d+1)) L11b (S11b S q i))=some (S11b S q (i+1)):=by
 have hx:=zej hi
 have hm:=hq.a.eq hi
 have hn:=ha.n
 have c2:=Mp.find_esT (aat S.A i).t (dlA S.A (mpL S.H S.H.length) i)
 have c3:=ztj (aat S.A i).t (dlA S.A (mpL S.H S.H.length) i)
 rw[z3m (fun j hj=>by have:=zik ha hj hi;omega),zva]at c3
 have c4:=@Mp.delE_esT (aat S.A i).t (dlA S.A (mpL S.H S.H.length) i) (z3n S.A (z01 S.H _) i)
 rw[<-qds]at c4
 have e:(usd S.H (aat S.A i).t S.H.length != (aat S.A i).u)=false:=by rw[hp];simp
 simp(disch:=apply zq;omega) only[go_sem,simprocAttr,↓Nat.reduceEqDiff,xx,L11b,m20,S11b,zad,hx,hm,c2,c3,c4,e]
theorem qdi (hq:FlOk S q)(ha:VA S.A){i:Nat}(hi:i<S.A.length)(hp:¬(aat S.A i).u=usd S.H (aat S.A i).t S.H.length) :
  out1 2 (evC gl (call gl tab (d+1)) L11b (S11b S q i))=some (.ret,.bool false):=by
 have hx:=zej hi
 have hm:=hq.a.eq hi
 have hn:=ha.n
 have c2:=Mp.find_esT (aat S.A i).t (dlA S.A (mpL S.H S.H.length) i)
 have c3:=ztj (aat S.A i).t (dlA S.A (mpL S.H S.H.length) i)
 rw[z3m (fun j hj=>by have:=zik ha hj hi;omega),zva]at c3
 have e:(usd S.H (aat S.A i).t S.H.length != (aat S.A i).u)=true:=by simpa using fun x=>hp x.symm
 simp(disch:=apply zq;omega) only[go_sem,simprocAttr,↓Nat.reduceEqDiff,xx,L11b,m20,S11b,zad,hx,hm,c2,c3,e]
end
set_option maxHeartbeats 4000000 in
theorem valid_at (h:8<=n){S:Sf}{q:Fl}(hq:FlOk S q)(ha:S.A.length<2^60)(hh:S.H.length<2^60)(hL:S.L.length<2^20)(hw:S.w<=9223372036854775807) :
  ∃b:Bool,(b=true↔VSf S)/\call gl tab n 20 [sfV S q] []=some (.bool b,[],[]):=by
 obtain⟨d,rfl⟩:=wB h
 obtain⟨ba,hba,c1⟩:=@zmt gl (d+7) (by omega) q.fa q.ma S.A hq.a ha
 obtain⟨bk,hbk,c2⟩:=@K.valid_at gl (d+7) (by omega) q.fl S.w S.s S.a S.L hL hw
 rw[zaf (fd:=fd20) rfl]
 have z:∀P:Prop,¬P->(false=true↔P):=fun P h=>⟨(fun h=>by cases h),fun h'=>absurd h' h⟩
 by_cases h1:0<=S.c
 case neg=>exact⟨false,z _ fun h=>h1 h.c.1,by simp(disch:=apply zq;omega) only[go_sem,simprocAttr,↓Nat.reduceEqDiff,xx,fd20,m20,c1,c2]⟩
 by_cases h2:S.c<=1099511627776
 case neg=>exact⟨false,z _ fun h=>h2 h.c.2,by simp(disch:=apply zq;omega) only[go_sem,simprocAttr,↓Nat.reduceEqDiff,xx,fd20,m20,c1,c2]⟩
 cases ba with
 | false=>exact⟨false,z _ fun h=>(by cases hba.2 h.va),by simp(disch:=apply zq;omega) only[go_sem,simprocAttr,↓Nat.reduceEqDiff,xx,fd20,m20,c1,c2]⟩
 | true =>
 cases bk with
 | false=>exact⟨false,z _ fun h=>(by cases hbk.2 h.vk),by simp(disch:=apply zq;omega) only[go_sem,simprocAttr,↓Nat.reduceEqDiff,xx,fd20,m20,c1,c2]⟩
 | true =>
 have va:=hba.1 rfl
 have vk:=hbk.1 rfl
 by_cases h3:S.H.length<=4096
 case neg=>exact⟨false,z _ fun h=>h3 h.hn,by simp(disch:=apply zq;omega) only[go_sem,simprocAttr,↓Nat.reduceEqDiff,xx,fd20,m20,c1,c2,zaa]⟩
 rcases first_fail (HOk1 S) S.H.length with hA|⟨k,hk,hb,he⟩
 case inr =>
  obtain⟨st,hst,hg⟩:=zcw (qdj (gl:=gl) (d:=d+6) hq h3 hk he)
  have hs2:=fun i (hi:i<k)=>zzq (gl:=gl) (d:=d+6) hq h3 (by omega) (fun j hj=>(hb j (by omega)).r) (hb i hi)
  simp only[L11a,m20]at hs2 hst
  refine⟨false,z _ fun h=>he ⟨(h.ho k hk).r,(h.ho k hk).o⟩,?_⟩
  simp(disch:=apply zq;omega) only[go_sem,simprocAttr,↓Nat.reduceEqDiff,xx,fd20,m20,c1,c2,zaa]
  rw[zaj (S11a S q) k (by unfold LF;omega),hst]
  . simp(disch:=apply zq;omega) only[go_sem,simprocAttr,↓Nat.reduceEqDiff,xx,hg]
  . simp(disch:=apply zq;omega) only[go_sem,simprocAttr,↓Nat.reduceEqDiff,xx,S11a,zaa,mpL,zt2]
  . exact hs2
  . rw[hst];rfl
 have hR:RL S.H:=fun i hi=>(hA i hi).r
 have hs2:=fun i (hi:i<S.H.length)=>zzq (gl:=gl) (d:=d+6) hq h3 hi (fun j hj=>(hA j (by omega)).r) (hA i hi)
 simp only[L11a,m20]at hs2
 rcases first_fail (fun k=>(aat S.A k).u=usd S.H (aat S.A k).t S.H.length) S.A.length with hB|⟨k,hk,hb,he⟩
 case inr =>
  obtain⟨st,hst,hg⟩:=zcw (qdi (gl:=gl) (d:=d+6) hq va hk he)
  have hs3:=fun i (hi:i<k)=>zzp (gl:=gl) (d:=d+6) hq va (by omega) (hb i hi)
  simp only[L11b,m20]at hs3 hst
  refine⟨false,z _ fun h=>he (h.hu k hk),?_⟩
  simp(disch:=apply zq;omega) only[go_sem,simprocAttr,↓Nat.reduceEqDiff,xx,fd20,m20,c1,c2,zaa]
  rw[zaj (S11a S q) S.H.length (by unfold LF;omega)]
  . simp(disch:=apply zq;omega) only[go_sem,simprocAttr,↓Nat.reduceEqDiff,xx,S11a,zaa,zad]
    rw[zaj (S11b S q) k (by unfold LF;omega),hst]
    . simp(disch:=apply zq;omega) only[go_sem,simprocAttr,↓Nat.reduceEqDiff,xx,hg]
    . simp(disch:=apply zq;omega) only[go_sem,simprocAttr,↓Nat.reduceEqDiff,xx,S11b,zaa,dlA]
    . exact hs3
    . rw[hst];rfl
  . simp(disch:=apply zq;omega) only[go_sem,simprocAttr,↓Nat.reduceEqDiff,xx,S11a,zaa,mpL,zt2]
  . exact hs2
  . simp(disch:=apply zq;omega) only[go_sem,simprocAttr,↓Nat.reduceEqDiff,xx,S11a,zaa]
 have hs3:=fun i (hi:i<S.A.length)=>zzp (gl:=gl) (d:=d+6) hq va hi (hB i hi)
 simp only[L11b,m20]at hs3
 have hn:=va.n
 have c3:=@zom gl (d+7) (by omega) q.fa q.ma S.A hq.a va
 have key:=@qdt S.A S.H S.H.length
 refine⟨decide (dlA S.A (mpL S.H S.H.length) S.A.length=[])&&decide (sumU S.A S.A.length<=S.c),?_,?_⟩
 . rw[Bool.and_eq_true,decide_eq_true_eq,decide_eq_true_eq,key]
   exact⟨fun h=>⟨⟨h1,h2⟩,va,vk,h3,fun i hi=>⟨(hA i hi).r,(hA i hi).o,h.1 i hi⟩,hB,h.2⟩,fun h=>⟨fun i hi=>(h.ho i hi).t,h.ht⟩⟩
 have hlen:((dlA S.A (mpL S.H S.H.length) S.A.length).length:Int)=0↔dlA S.A (mpL S.H S.H.length) S.A.length=[]:=by
  rw[<-List.length_eq_zero_iff];omega
 simp(disch:=apply zq;omega) only[go_sem,simprocAttr,↓Nat.reduceEqDiff,xx,fd20,m20,c1,c2,zaa]
 rw[zaj (S11a S q) S.H.length (by unfold LF;omega)]
 . simp(disch:=apply zq;omega) only[go_sem,simprocAttr,↓Nat.reduceEqDiff,xx,S11a,zaa,zad]
   rw[zaj (S11b S q) S.A.length (by unfold LF;omega)]
   . by_cases hz:dlA S.A (mpL S.H S.H.length) S.A.length=[]
     . rw[decide_eq_true hz,Bool.true_and]
       have hz':esT (dlA S.A (mpL S.H S.H.length) S.A.length)=[]:=by rw[hz];rfl
       simp(disch:=apply zq;omega) only[go_sem,simprocAttr,↓Nat.reduceEqDiff,xx,S11b,zad,hz',c3]
     . rw[decide_eq_false hz,Bool.false_and]
       have hz':(((esT (dlA S.A (mpL S.H S.H.length) S.A.length)).length:Int)==0)=false:=by
        rw[qdn,beq_eq_false_iff_ne];exact fun x=>hz (hlen.1 x)
       simp(disch:=apply zq;omega) only[go_sem,simprocAttr,↓Nat.reduceEqDiff,xx,S11b,zad,hz']
   . simp(disch:=apply zq;omega) only[go_sem,simprocAttr,↓Nat.reduceEqDiff,xx,S11b,zaa,dlA]
   . exact hs3
   . simp(disch:=apply zq;omega) only[go_sem,simprocAttr,↓Nat.reduceEqDiff,xx,S11b,zad]
 . simp(disch:=apply zq;omega) only[go_sem,simprocAttr,↓Nat.reduceEqDiff,xx,S11a,zaa,mpL,zt2]
 . exact hs2
 . simp(disch:=apply zq;omega) only[go_sem,simprocAttr,↓Nat.reduceEqDiff,xx,S11a,zaa]
end Go.Proofs.S97
namespace Go.Proofs.S97
open Go Go.Ev Go.Proofs Go.Proofs.S97.Q
variable {gl :Gl} {n:Nat}
structure NOk (c:Int)(A:List A3)(w s a:Int)(L:List Int):Prop where
 c:0<=c/\c<=1099511627776
 va:VA A
 u:∀i,i<A.length->(aat A i).u=0
 vk:K.VS w s a L
abbrev sf0 :AV:=.agg [i64 0,.lst true .sc [],.lst true .sc [],.agg [i64 0,i64 0,i64 0,.lst true .sc []]]
abbrev newS (c:Int)(A:List A3)(w s a:Int)(L:List Int):Sf:=⟨c,A,[],w,s,a,L⟩
theorem qgq (h:8<=n){f f':Bool}{c:Int}{A:List A3}{w s a:Int}{L:List Int}(hL:L.length<2^20)(hw:w<=9223372036854775807)(hN:NOk c A w s a L) :
  call gl tab n 18 [i64 c,.lst f sA (ac A),.agg [i64 w,i64 s,i64 a,.lst f' .sc (K.ns L)]] []=some (.tup [sfV (newS c A w s a L) ⟨false,true,false,sA,.sc⟩,i64 0],[],[]):=by
 obtain⟨d,rfl⟩:=wB h
 have hn:=hN.va.n
 obtain⟨ba,hba,c1⟩:=@zmt gl (d+7) (by omega) f sA A (Or.inr rfl) (by omega)
 obtain⟨bu,hbu,c2⟩:=@z4n gl (d+7) (by omega) f sA A (Or.inr rfl) (by omega)
 obtain⟨bk,hbk,c3⟩:=@K.valid_at gl (d+7) (by omega) f' w s a L hL hw
 rw[hba.2 hN.va]at c1
 rw[hbk.2 hN.vk]at c3
 have hu:bu=false:=by
  cases bu with
  | false=>rfl
  | true=>obtain⟨i,hi,hc⟩:=hbu.1 rfl;exact absurd (hN.u i hi) hc
 rw[hu]at c2
 have c4:=@K.cloneI_at gl (d+7) (by omega) f' L hL
 have c5:=@zv9 gl (d+7) (by omega) f A hn
 have h1:=hN.c.1
 have h2:=hN.c.2
 have e1:(K.ns L).take L.length=K.ns L:=by rw[<-K.ns_length];exact List.take_length
 have e2:=zwm A
 rw[zaf (fd:=fd18) rfl]
 simp(disch:=apply zq;omega) only[go_sem,simprocAttr,↓Nat.reduceEqDiff,xx,fd18,m18,c1,c2,c3,c4,c5,K.ns_length,zad,e1,e2]
 rfl
abbrev g0 :AV:=.agg [sf0,i64 0]
section
variable {d :Nat} {f f':Bool} {c:Int} {A:List A3} {w s a:Int} {L:List Int}
end
end Go.Proofs.S97
