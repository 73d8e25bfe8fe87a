/-
  Chapter 17: whether an account is used; whether a tenant has one. No condition.
-/
import Derived.Test.YthipjfnealbheaaGreatDoorW97G15x4
set_option linter.all false
open Nat renaming exists_eq_add_of_le'->wB
namespace Go.Proofs.S97
open Go Go.Ev Go.Proofs Go.Proofs.S97.Q
variable {gl :Gl} {n:Nat}
theorem z99 (h:1<=n){t w u:Int}(hu:u≠0):call gl tab n 45 [.agg [i64 t,i64 w,i64 u]] []=some (.bool true,[],[]):=by
 obtain⟨d,rfl⟩:=wB h
 have e:(u != 0)=true:=by simpa using hu
 rw[zaf (fd:=fd45) rfl]
 simp(disch:=apply zq;omega) only[go_sem,simprocAttr,↓Nat.reduceEqDiff,xx,fd45,m45,e]
theorem qaa (h:1<=n){t w u:Int}(hu:¬u≠0):call gl tab n 45 [.agg [i64 t,i64 w,i64 u]] []=some (.bool false,[],[]):=by
 obtain⟨d,rfl⟩:=wB h
 have e:(u != 0)=false:=by simpa using hu
 rw[zaf (fd:=fd45) rfl]
 simp(disch:=apply zq;omega) only[go_sem,simprocAttr,↓Nat.reduceEqDiff,xx,fd45,m45,e]
theorem qky (h:1<=n){t w u x:Int}(hu:t=x):call gl tab n 77 [.agg [i64 t,i64 w,i64 u],.cp .sc (i64 x)] []=some (.bool true,[],[]):=by
 obtain⟨d,rfl⟩:=wB h
 have e:(t==x)=true:=by simpa using hu
 rw[zaf (fd:=fd77) rfl]
 simp(disch:=apply zq;omega) only[go_sem,simprocAttr,↓Nat.reduceEqDiff,xx,fd77,m77,e]
theorem qkz (h:1<=n){t w u x:Int}(hu:¬t=x):call gl tab n 77 [.agg [i64 t,i64 w,i64 u],.cp .sc (i64 x)] []=some (.bool false,[],[]):=by
 obtain⟨d,rfl⟩:=wB h
 have e:(t==x)=false:=by simpa using hu
 rw[zaf (fd:=fd77) rfl]
 simp(disch:=apply zq;omega) only[go_sem,simprocAttr,↓Nat.reduceEqDiff,xx,fd77,m77,e]
def L45 :MC:=match m73 with| .seq _ (.seq (.seq _ (.block _ (.loop _ b))) _)=>b|_=>.skip
def S45 (fn:AV)(f:Bool)(m:Sh)(l:List A3)(i:Nat):St:=⟨[.set 8 (i64 i),.set 7 (i64 l.length),.set 1 fn,.set 0 (.lst f m (ac l))],[]⟩
theorem z4m (h:2<=n){f:Bool}{m:Sh}{l:List A3}(hm:Mk l m sA)(hl:l.length<2^60) :
  ∃b:Bool,(b=true↔∃i,i<l.length/\(aat l i).u≠0)/\∃k:Nat,k<2^60/\call gl tab n 73 [.lst f m (ac l),.fn 45 []] []=some (i64 (if b=true then(k:Int)else -1),[],[]):=by
 obtain⟨d,rfl⟩:=wB h
 have hst:∀i,i<l.length->¬(aat l i).u≠0->zba [.slot 0,.slot 1,.slot 7,.slot 8] (evC gl (call gl tab (d+1)) L45 (S45 (.fn 45 []) f m l i))=some (S45 (.fn 45 []) f m l (i+1)):=fun i hi hp=>by
  have hx:=zej hi
  obtain rfl:=hm.eq hi
  have c:=@qaa gl (d+1) (by omega) (aat l i).t (aat l i).w (aat l i).u  hp
  simp(disch:=apply zq;omega) only[go_sem,simprocAttr,↓Nat.reduceEqDiff,xx,L45,m73,S45,zad,hx,c]
 have hf:∀i,i<l.length->(aat l i).u≠0->out1 4 (evC gl (call gl tab (d+1)) L45 (S45 (.fn 45 []) f m l i))=some (.ret,i64 i):=fun i hi hp=>by
  have hx:=zej hi
  obtain rfl:=hm.eq hi
  have c:=@z99 gl (d+1) (by omega) (aat l i).t (aat l i).w (aat l i).u  hp
  simp(disch:=apply zq;omega) only[go_sem,simprocAttr,↓Nat.reduceEqDiff,xx,L45,m73,S45,zad,hx,c]
 rw[zaf (fd:=fd73) rfl]
 rcases first_fail (fun i=>¬(aat l i).u≠0) l.length with ha|⟨k,hk,hb',he⟩
 . refine⟨false,⟨(fun h=>by cases h),fun⟨i,hi,hp⟩=>absurd hp (ha i hi)⟩,0,by omega,?_⟩
   have hs2:=fun i hi=>hst i hi (ha i hi)
   simp only[L45,m73]at hs2
   simp(disch:=apply zq;omega) only[go_sem,simprocAttr,↓Nat.reduceEqDiff,xx,fd73,m73,zad]
   rw[zaj (S45 (.fn 45 []) f m l) l.length (by unfold LF;omega)]
   . simp(disch:=apply zq;omega) only[go_sem,simprocAttr,↓Nat.reduceEqDiff,xx,S45,zad]
   . simp(disch:=apply zq;omega) only[go_sem,simprocAttr,↓Nat.reduceEqDiff,xx,S45,zad]
   . exact hs2
   . simp(disch:=apply zq;omega) only[go_sem,simprocAttr,↓Nat.reduceEqDiff,xx,S45,zad]
 . have he:=Classical.not_not.1 he
   obtain⟨st,hst',hg⟩:=zcw (hf k hk he)
   have hs2:=fun i (hi:i<k)=>hst i (by omega) (hb' i hi)
   simp only[L45,m73]at hs2 hst'
   refine⟨true,⟨fun _=>⟨k,hk,he⟩,fun _=>rfl⟩,k,by omega,?_⟩
   simp(disch:=apply zq;omega) only[go_sem,simprocAttr,↓Nat.reduceEqDiff,xx,fd73,m73,zad]
   rw[zaj (S45 (.fn 45 []) f m l) k (by unfold LF;omega),hst']
   . simp(disch:=apply zq;omega) only[go_sem,simprocAttr,↓Nat.reduceEqDiff,xx,hg]
   . simp(disch:=apply zq;omega) only[go_sem,simprocAttr,↓Nat.reduceEqDiff,xx,S45,zad]
   . exact hs2
   . rw[hst'];rfl
theorem z4n (h:3<=n){f:Bool}{m:Sh}{l:List A3}(hm:Mk l m sA)(hl:l.length<2^60) :
  ∃b:Bool,(b=true↔∃i,i<l.length/\(aat l i).u≠0)/\call gl tab n 47 [.lst f m (ac l),.fn 45 []] []=some (.bool b,[],[]):=by
 obtain⟨d,rfl⟩:=wB h
 obtain⟨b,hb,k,hk,c⟩:=@z4m gl (d+2) (by omega) f m l hm hl
 refine⟨b,hb,?_⟩
 rw[zaf (fd:=fd47) rfl]
 cases b with
 | true=>rw[if_pos rfl]at c;simp(disch:=apply zq;omega) only[go_sem,simprocAttr,↓Nat.reduceEqDiff,xx,fd47,m47,c]
 | false=>rw[if_neg (by decide)]at c;simp(disch:=apply zq;omega) only[go_sem,simprocAttr,↓Nat.reduceEqDiff,xx,fd47,m47,c]
theorem qg7 (h:2<=n){f:Bool}{m:Sh}{l:List A3}(hm:Mk l m sA)(hl:l.length<2^60)(x:Int) :
  ∃b:Bool,(b=true↔∃i,i<l.length/\(aat l i).t=x)/\∃k:Nat,k<2^60/\call gl tab n 73 [.lst f m (ac l),.fn 77 [.cp .sc (i64 x)]] []=some (i64 (if b=true then(k:Int)else -1),[],[]):=by
 obtain⟨d,rfl⟩:=wB h
 have hst:∀i,i<l.length->¬(aat l i).t=x->zba [.slot 0,.slot 1,.slot 7,.slot 8] (evC gl (call gl tab (d+1)) L45 (S45 (.fn 77 [.cp .sc (i64 x)]) f m l i))=some (S45 (.fn 77 [.cp .sc (i64 x)]) f m l (i+1)):=fun i hi hp=>by
  have hx:=zej hi
  obtain rfl:=hm.eq hi
  have c:=@qkz gl (d+1) (by omega) (aat l i).t (aat l i).w (aat l i).u x hp
  simp(disch:=apply zq;omega) only[go_sem,simprocAttr,↓Nat.reduceEqDiff,xx,L45,m73,S45,zad,hx,c]
 have hf:∀i,i<l.length->(aat l i).t=x->out1 4 (evC gl (call gl tab (d+1)) L45 (S45 (.fn 77 [.cp .sc (i64 x)]) f m l i))=some (.ret,i64 i):=fun i hi hp=>by
  have hx:=zej hi
  obtain rfl:=hm.eq hi
  have c:=@qky gl (d+1) (by omega) (aat l i).t (aat l i).w (aat l i).u x hp
  simp(disch:=apply zq;omega) only[go_sem,simprocAttr,↓Nat.reduceEqDiff,xx,L45,m73,S45,zad,hx,c]
 rw[zaf (fd:=fd73) rfl]
 rcases first_fail (fun i=>¬(aat l i).t=x) l.length with ha|⟨k,hk,hb',he⟩
 . refine⟨false,⟨(fun h=>by cases h),fun⟨i,hi,hp⟩=>absurd hp (ha i hi)⟩,0,by omega,?_⟩
   have hs2:=fun i hi=>hst i hi (ha i hi)
   simp only[L45,m73]at hs2
   simp(disch:=apply zq;omega) only[go_sem,simprocAttr,↓Nat.reduceEqDiff,xx,fd73,m73,zad]
   rw[zaj (S45 (.fn 77 [.cp .sc (i64 x)]) f m l) l.length (by unfold LF;omega)]
   . simp(disch:=apply zq;omega) only[go_sem,simprocAttr,↓Nat.reduceEqDiff,xx,S45,zad]
   . simp(disch:=apply zq;omega) only[go_sem,simprocAttr,↓Nat.reduceEqDiff,xx,S45,zad]
   . exact hs2
   . simp(disch:=apply zq;omega) only[go_sem,simprocAttr,↓Nat.reduceEqDiff,xx,S45,zad]
 . have he:=Classical.not_not.1 he
   obtain⟨st,hst',hg⟩:=zcw (hf k hk he)
   have hs2:=fun i (hi:i<k)=>hst i (by omega) (hb' i hi)
   simp only[L45,m73]at hs2 hst'
   refine⟨true,⟨fun _=>⟨k,hk,he⟩,fun _=>rfl⟩,k,by omega,?_⟩
   simp(disch:=apply zq;omega) only[go_sem,simprocAttr,↓Nat.reduceEqDiff,xx,fd73,m73,zad]
   rw[zaj (S45 (.fn 77 [.cp .sc (i64 x)]) f m l) k (by unfold LF;omega),hst']
   . simp(disch:=apply zq;omega) only[go_sem,simprocAttr,↓Nat.reduceEqDiff,xx,hg]
   . simp(disch:=apply zq;omega) only[go_sem,simprocAttr,↓Nat.reduceEqDiff,xx,S45,zad]
   . exact hs2
   . rw[hst'];rfl
theorem qg8 (h:3<=n){f:Bool}{m:Sh}{l:List A3}(hm:Mk l m sA)(hl:l.length<2^60)(x:Int) :
  ∃b:Bool,(b=true↔∃i,i<l.length/\(aat l i).t=x)/\call gl tab n 47 [.lst f m (ac l),.fn 77 [.cp .sc (i64 x)]] []=some (.bool b,[],[]):=by
 obtain⟨d,rfl⟩:=wB h
 obtain⟨b,hb,k,hk,c⟩:=@qg7 gl (d+2) (by omega) f m l hm hl x
 refine⟨b,hb,?_⟩
 rw[zaf (fd:=fd47) rfl]
 cases b with
 | true=>rw[if_pos rfl]at c;simp(disch:=apply zq;omega) only[go_sem,simprocAttr,↓Nat.reduceEqDiff,xx,fd47,m47,c]
 | false=>rw[if_neg (by decide)]at c;simp(disch:=apply zq;omega) only[go_sem,simprocAttr,↓Nat.reduceEqDiff,xx,fd47,m47,c]
theorem z9v (h:4<=n){f:Bool}{m:Sh}{l:List A3}(hm:Mk l m sA)(hl:l.length<2^60)(x:Int) :
  ∃b:Bool,(b=true↔∃i,i<l.length/\(aat l i).t=x)/\call gl tab n 53 [.lst f m (ac l),i64 x] []=some (.bool b,[],[]):=by
 obtain⟨d,rfl⟩:=wB h
 obtain⟨b,hb,c⟩:=@qg8 gl (d+3) (by omega) f m l hm hl x
 refine⟨b,hb,?_⟩
 rw[zaf (fd:=fd53) rfl]
 simp(disch:=apply zq;omega) only[go_sem,simprocAttr,↓Nat.reduceEqDiff,xx,fd53,m53,c]
def L29 :MC:=match m32 with| .seq _ (.seq _ (.seq (.seq _ (.block _ (.loop _ b))) _))=>b|_=>.skip
def S29 (f f':Bool)(k k':Sh)(a:List Ob)(i:Nat):St:=⟨[.set 5 (i64 i),.set 1 (.lst f' k' (hs a)),.set 0 (.lst f k (hs a))],[]⟩
theorem z45 (h:1<=n){f f':Bool}{k k':Sh}{a:List Ob}(hm:Mk a k sO)(hm':Mk a k' sO)(hl:a.length<2^60):call gl tab n 32 [.lst f k (hs a),.lst f' k' (hs a)] []=some (.bool true,[],[]):=by
 obtain⟨d,rfl⟩:=wB h
 have hst:∀i,i<a.length->zba [.slot 0,.slot 1,.slot 5] (evC gl (call gl tab d) L29 (S29 f f' k k' a i))=some (S29 f f' k k' a (i+1)):=fun i hi=>by
  have hx:=zdu hi
  obtain rfl:=hm.eq hi
  obtain rfl:=hm'.eq hi
  simp(disch:=apply zq;omega) only[go_sem,simprocAttr,↓Nat.reduceEqDiff,xx,L29,m32,S29,zaa,hx,eqAV,zml,beq_self_eq_true]
 simp only[L29,m32]at hst
 rw[zaf (fd:=fd32) rfl]
 simp(disch:=apply zq;omega) only[go_sem,simprocAttr,↓Nat.reduceEqDiff,xx,fd32,m32,zaa]
 rw[zaj (S29 f f' k k' a) a.length (by unfold LF;omega)]
 . simp(disch:=apply zq;omega) only[go_sem,simprocAttr,↓Nat.reduceEqDiff,xx,S29,zaa]
 . simp(disch:=apply zq;omega) only[go_sem,simprocAttr,↓Nat.reduceEqDiff,xx,S29,zaa]
 . exact hst
 . simp(disch:=apply zq;omega) only[go_sem,simprocAttr,↓Nat.reduceEqDiff,xx,S29,zaa]
structure Sf where
 c:Int
 A:List A3
 H:List Ob
 w:Int
 s:Int
 a:Int
 L:List Int
structure Fl where
 fa:Bool
 fh:Bool
 fl:Bool
 ma:Sh
 mh:Sh
abbrev skV (S:Sf)(q:Fl):AV:=.agg [i64 S.w,i64 S.s,i64 S.a,.lst q.fl .sc (K.ns S.L)]
abbrev sfV (S:Sf)(q:Fl):AV:=.agg [i64 S.c,.lst q.fa q.ma (ac S.A),.lst q.fh q.mh (hs S.H),skV S q]
structure FlOk (S:Sf)(q:Fl):Prop where
 a:Mk S.A q.ma sA
 h:Mk S.H q.mh sO
theorem same_at (h:2<=n){S:Sf}{q q':Fl}(hq:FlOk S q)(hq':FlOk S q')(ha:S.A.length<2^60)(hh:S.H.length<2^60)(hL:S.L.length<2^20) :
  call gl tab n 11 [sfV S q,sfV S q'] []=some (.bool true,[],[]):=by
 obtain⟨d,rfl⟩:=wB h
 have c1:=@z46 gl (d+1) (by omega) q.fa q'.fa q.ma q'.ma S.A hq.a hq'.a ha
 have c2:=@z45 gl (d+1) (by omega) q.fh q'.fh q.mh q'.mh S.H hq.h hq'.h hh
 have c3:=@K.same_at gl (d+1) (by omega) q.fl q'.fl S.w S.s S.a S.L hL
 rw[zaf (fd:=fd11) rfl]
 simp(disch:=apply zq;omega) only[go_sem,simprocAttr,↓Nat.reduceEqDiff,xx,fd11,m11,c1,c2,c3]
end Go.Proofs.S97
namespace Go.Proofs.S97
open Go Go.Ev Go.Proofs Go.Proofs.S97.Q
variable {gl :Gl} {n:Nat}
structure HOk (S:Sf)(i:Nat):Prop where
 r:ROk (oat S.H i)
 o:0<i->Bl.lt (oat S.H (i-1)).nm (oat S.H i).nm=true
 t:∃k,k<S.A.length/\(aat S.A k).t=(oat S.H i).tn
structure VSf (S:Sf):Prop where
 c:0<=S.c/\S.c<=1099511627776
 va:VA S.A
 vk:K.VS S.w S.s S.a S.L
 hn:S.H.length<=4096
 ho:∀i,i<S.H.length->HOk S i
 hu:∀k,k<S.A.length->(aat S.A k).u=usd S.H (aat S.A k).t S.H.length
 ht:sumU S.A S.A.length<=S.c
theorem sub1 (j:Nat):((j+1:Nat):Int)-1=(j:Int):=by omega
abbrev shB :Sh:=.st [.sc,.sc,.sc,.st [.sc,.sc,.sc,.sc]]
def L12a :MC:=match m12 with| .seq _ (.seq _ (.seq _ (.seq _ (.seq (.seq _ (.block _ (.loop _ b))) _))))=>b|_=>.skip
def L12b :MC:=match m12 with| .seq _ (.seq _ (.seq _ (.seq _ (.seq _ (.seq (.seq _ (.block _ (.loop _ b))) _)))))=>b|_=>.skip
def S12a (S:Sf)(q:Fl)(i:Nat):St:=⟨[.set 5 (i64 i),.set 1 (.ptr 1 [])],[(1,.fix shB (sfV S q))]⟩
def S12b (S:Sf)(q:Fl)(i:Nat):St:=⟨[.set 6 (i64 i),.set 1 (.ptr 1 [])],[(1,.fix shB (sfV S q))]⟩
section
variable {d :Nat} {S:Sf} {q:Fl}
theorem zzo (hq:FlOk S q)(ha:S.A.length<2^60)(hh:S.H.length<=4096){i:Nat}(hi:i<S.H.length)(hp:HOk S i) :
  zba [.slot 1,.slot 5,.key 1] (evC gl (call gl tab (d+1)) L12a (S12a S q i))=some (S12a S q (i+1)):=by
 have hx:=zdu hi
 have hm:=hq.h.eq hi
 obtain⟨b,hb,c1⟩:=@zqn gl (d+1) (by omega) (oat S.H i)
 rw[hb.2 hp.r]at c1
 obtain⟨k,hk,k1,k2,c2⟩:=@zs8 gl (d+1) (by omega) q.fa q.ma S.A hq.a ha (oat S.H i).tn
 have hkl:k<S.A.length:=by
  obtain⟨j,hj,hj2⟩:=hp.t
  rcases Nat.lt_or_ge j k with h|h
  . exact absurd hj2 (k1 j h)
  . omega
 rw[ix,if_pos hkl]at c2
 cases i with
 | zero=>simp(disch:=apply zq;omega) only[go_sem,simprocAttr,↓Nat.reduceEqDiff,xx,L12a,m12,S12a,zaa,hx,hm,c1,c2]
 | succ j =>
   have hx':=zdu (show j<S.H.length by omega)
   have ho:=hp.o (by omega)
   rw[show j+1-1=j by omega]at ho
   have ho':=Bl.asymm ho
   simp(disch:=apply zq;omega) only[go_sem,simprocAttr,↓Nat.reduceEqDiff,xx,L12a,m12,S12a,zaa,hx,hx',hm,c1,c2,sub1,zsb,ho,ho']
theorem qdh (hq:FlOk S q)(ha:S.A.length<2^60)(hh:S.H.length<=4096){i:Nat}(hi:i<S.H.length)(hp:¬HOk S i) :
  out1 2 (evC gl (call gl tab (d+1)) L12a (S12a S q i))=some (.ret,.bool false):=by
 have hx:=zdu hi
 have hm:=hq.h.eq hi
 obtain⟨b,hb,c1⟩:=@zqn gl (d+1) (by omega) (oat S.H i)
 obtain⟨k,hk,k1,k2,c2⟩:=@zs8 gl (d+1) (by omega) q.fa q.ma S.A hq.a ha (oat S.H i).tn
 cases b with
 | false=>cases i<;>simp(disch:=apply zq;omega) only[go_sem,simprocAttr,↓Nat.reduceEqDiff,xx,L12a,m12,S12a,zaa,hx,hm,c1]
 | true =>
 have hr:=hb.1 rfl
 cases i with
 | zero =>
   have hkl:¬k<S.A.length:=fun h=>hp ⟨hr,fun h=>absurd h (by omega),k,h,k2 h⟩
   rw[ix,if_neg hkl]at c2
   simp(disch:=apply zq;omega) only[go_sem,simprocAttr,↓Nat.reduceEqDiff,xx,L12a,m12,S12a,zaa,hx,hm,c1,c2]
 | succ j =>
   have hx':=zdu (show j<S.H.length by omega)
   cases ho:Bl.lt (oat S.H j).nm (oat S.H (j+1)).nm with
   | false=>simp(disch:=apply zq;omega) only[go_sem,simprocAttr,↓Nat.reduceEqDiff,xx,L12a,m12,S12a,zaa,hx,hx',hm,c1,sub1,zsb,ho]
   | true =>
     have hkl:¬k<S.A.length:=fun h=>hp ⟨hr,fun _=>ho,k,h,k2 h⟩
     rw[ix,if_neg hkl]at c2
     simp(disch:=apply zq;omega) only[go_sem,simprocAttr,↓Nat.reduceEqDiff,xx,L12a,m12,S12a,zaa,hx,hx',hm,c1,c2,sub1,zsb,ho]
theorem zzn (hq:FlOk S q)(ha:VA S.A)(hh:S.H.length<=4096)(hr:RL S.H){i:Nat}(hi:i<S.A.length)(hp:(aat S.A i).u=usd S.H (aat S.A i).t S.H.length) :
  zba [.slot 1,.slot 6,.key 1] (evC gl (call gl tab (d+1)) L12b (S12b S q i))=some (S12b S q (i+1)):=by
 have hx:=zej hi
 have hm:=hq.a.eq hi
 have hn:=ha.n
 have c1:=@zsl gl (d+1) (by omega) q.fh q.mh S.H hq.h hh hr (aat S.A i).t
 have e:((aat S.A i).u != usd S.H (aat S.A i).t S.H.length)=false:=by rw[hp];simp
 simp(disch:=apply zq;omega) only[go_sem,simprocAttr,↓Nat.reduceEqDiff,xx,L12b,m12,S12b,zad,hx,hm,c1,e]
theorem qdg (hq:FlOk S q)(ha:VA S.A)(hh:S.H.length<=4096)(hr:RL S.H){i:Nat}(hi:i<S.A.length)(hp:¬(aat S.A i).u=usd S.H (aat S.A i).t S.H.length) :
  out1 2 (evC gl (call gl tab (d+1)) L12b (S12b S q i))=some (.ret,.bool false):=by
 have hx:=zej hi
 have hm:=hq.a.eq hi
 have hn:=ha.n
 have c1:=@zsl gl (d+1) (by omega) q.fh q.mh S.H hq.h hh hr (aat S.A i).t
 have e:((aat S.A i).u != usd S.H (aat S.A i).t S.H.length)=true:=by simpa using hp
 simp(disch:=apply zq;omega) only[go_sem,simprocAttr,↓Nat.reduceEqDiff,xx,L12b,m12,S12b,zad,hx,hm,c1,e]
end
set_option maxHeartbeats 2000000 in
theorem rvalid_at (h:4<=n){S:Sf}{q:Fl}(hq:FlOk S q)(ha:S.A.length<2^60)(hh:S.H.length<2^60)(hL:S.L.length<2^20) :
  ∃b:Bool,(b=true↔VSf S)/\call gl tab n 12 [sfV S q] []=some (.bool b,[],[]):=by
 obtain⟨d,rfl⟩:=wB h
 obtain⟨ba,hba,c1⟩:=@zqy gl (d+3) (by omega) q.fa q.ma S.A hq.a ha
 obtain⟨bk,hbk,c2⟩:=@K.rvalid_at gl (d+3) (by omega) q.fl S.w S.s S.a S.L hL
 rw[zaf (fd:=fd12) rfl]
 have z:∀P:Prop,¬P->(false=true↔P):=fun P h=>⟨(fun h=>by cases h),fun h'=>absurd h' h⟩
 by_cases h1:0<=S.c
 case neg=>exact⟨false,z _ fun h=>h1 h.c.1,by simp(disch:=apply zq;omega) only[go_sem,simprocAttr,↓Nat.reduceEqDiff,xx,fd12,m12,c1,c2]⟩
 by_cases h2:S.c<=1099511627776
 case neg=>exact⟨false,z _ fun h=>h2 h.c.2,by simp(disch:=apply zq;omega) only[go_sem,simprocAttr,↓Nat.reduceEqDiff,xx,fd12,m12,c1,c2]⟩
 cases ba with
 | false=>exact⟨false,z _ fun h=>(by cases hba.2 h.va),by simp(disch:=apply zq;omega) only[go_sem,simprocAttr,↓Nat.reduceEqDiff,xx,fd12,m12,c1,c2]⟩
 | true =>
 cases bk with
 | false=>exact⟨false,z _ fun h=>(by cases hbk.2 h.vk),by simp(disch:=apply zq;omega) only[go_sem,simprocAttr,↓Nat.reduceEqDiff,xx,fd12,m12,c1,c2]⟩
 | true =>
 have va:=hba.1 rfl
 have vk:=hbk.1 rfl
 by_cases h3:S.H.length<=4096
 case neg=>exact⟨false,z _ fun h=>h3 h.hn,by simp(disch:=apply zq;omega) only[go_sem,simprocAttr,↓Nat.reduceEqDiff,xx,fd12,m12,c1,c2,zaa]⟩
 rcases first_fail (HOk S) S.H.length with hA|⟨k,hk,hb,he⟩
 case inr =>
  obtain⟨st,hst,hg⟩:=zcw (qdh (gl:=gl) (d:=d+2) hq ha h3 hk he)
  have hs2:=fun i (hi:i<k)=>zzo (gl:=gl) (d:=d+2) hq ha h3 (by omega) (hb i hi)
  simp only[L12a,m12]at hs2 hst
  refine⟨false,z _ fun h=>he (h.ho k hk),?_⟩
  simp(disch:=apply zq;omega) only[go_sem,simprocAttr,↓Nat.reduceEqDiff,xx,fd12,m12,c1,c2,zaa]
  rw[zaj (S12a S q) k (by unfold LF;omega),hst]
  . simp(disch:=apply zq;omega) only[go_sem,simprocAttr,↓Nat.reduceEqDiff,xx,hg]
  . simp(disch:=apply zq;omega) only[go_sem,simprocAttr,↓Nat.reduceEqDiff,xx,S12a,zaa]
  . exact hs2
  . rw[hst];rfl
 have hR:RL S.H:=fun i hi=>(hA i hi).r
 have hs2:=fun i (hi:i<S.H.length)=>zzo (gl:=gl) (d:=d+2) hq ha h3 hi (hA i hi)
 simp only[L12a,m12]at hs2
 rcases first_fail (fun k=>(aat S.A k).u=usd S.H (aat S.A k).t S.H.length) S.A.length with hB|⟨k,hk,hb,he⟩
 case inr =>
  obtain⟨st,hst,hg⟩:=zcw (qdg (gl:=gl) (d:=d+2) hq va h3 hR hk he)
  have hs3:=fun i (hi:i<k)=>zzn (gl:=gl) (d:=d+2) hq va h3 hR (by omega) (hb i hi)
  simp only[L12b,m12]at hs3 hst
  refine⟨false,z _ fun h=>he (h.hu k hk),?_⟩
  simp(disch:=apply zq;omega) only[go_sem,simprocAttr,↓Nat.reduceEqDiff,xx,fd12,m12,c1,c2,zaa]
  rw[zaj (S12a S q) S.H.length (by unfold LF;omega)]
  . simp(disch:=apply zq;omega) only[go_sem,simprocAttr,↓Nat.reduceEqDiff,xx,S12a,zaa]
    rw[zaj (S12b S q) k (by unfold LF;omega),hst]
    . simp(disch:=apply zq;omega) only[go_sem,simprocAttr,↓Nat.reduceEqDiff,xx,hg]
    . simp(disch:=apply zq;omega) only[go_sem,simprocAttr,↓Nat.reduceEqDiff,xx,S12b,zaa]
    . exact hs3
    . rw[hst];rfl
  . simp(disch:=apply zq;omega) only[go_sem,simprocAttr,↓Nat.reduceEqDiff,xx,S12a,zaa]
  . exact hs2
  . simp(disch:=apply zq;omega) only[go_sem,simprocAttr,↓Nat.reduceEqDiff,xx,S12a,zaa]
 have hs3:=fun i (hi:i<S.A.length)=>zzn (gl:=gl) (d:=d+2) hq va h3 hR hi (hB i hi)
 simp only[L12b,m12]at hs3
 have hn:=va.n
 have c3:=@zz8 gl (d+3) (by omega) q.fa q.ma S.A hq.a va
 refine⟨decide (sumU S.A S.A.length<=S.c),?_,?_⟩
 . rw[decide_eq_true_eq]
   exact⟨fun h=>⟨⟨h1,h2⟩,va,vk,h3,hA,hB,h⟩,fun h=>h.ht⟩
 simp(disch:=apply zq;omega) only[go_sem,simprocAttr,↓Nat.reduceEqDiff,xx,fd12,m12,c1,c2,zaa]
 rw[zaj (S12a S q) S.H.length (by unfold LF;omega)]
 . simp(disch:=apply zq;omega) only[go_sem,simprocAttr,↓Nat.reduceEqDiff,xx,S12a,zaa]
   rw[zaj (S12b S q) S.A.length (by unfold LF;omega)]
   . simp(disch:=apply zq;omega) only[go_sem,simprocAttr,↓Nat.reduceEqDiff,xx,S12b,zad,c3]
   . simp(disch:=apply zq;omega) only[go_sem,simprocAttr,↓Nat.reduceEqDiff,xx,S12b,zaa]
   . exact hs3
   . simp(disch:=apply zq;omega) only[go_sem,simprocAttr,↓Nat.reduceEqDiff,xx,S12b,zad]
 . simp(disch:=apply zq;omega) only[go_sem,simprocAttr,↓Nat.reduceEqDiff,xx,S12a,zaa]
 . exact hs2
 . simp(disch:=apply zq;omega) only[go_sem,simprocAttr,↓Nat.reduceEqDiff,xx,S12a,zaa]
end Go.Proofs.S97
