/-
  Chapter 17: whether an account is used; whether a tenant has one. No condition.
-/
import Derived.Test.YthipjfnealbheaaDoorW17G16x5
set_option linter.all false
open Nat renaming exists_eq_add_of_le'->wB
namespace Go.Proofs.S17
open Go Go.Ev Go.Proofs Go.Proofs.S17.Q
variable {gl :Gl} {n:Nat}
theorem z7r (h:1<=n){t w u:Int}(hu:u≠0):call gl tab n 20 [.agg [i64 t,i64 w,i64 u]] []=some (.bool true,[],[]):=by
 obtain⟨d,rfl⟩:=wB h
 have e:(u != 0)=true:=by simpa using hu
 rw[zah (fd:=fd20) rfl]
 simp(disch:=apply zq;omega) only[go_sem,simprocAttr,↓Nat.reduceEqDiff,xx,fd20,m20,e]
theorem z7s (h:1<=n){t w u:Int}(hu:¬u≠0):call gl tab n 20 [.agg [i64 t,i64 w,i64 u]] []=some (.bool false,[],[]):=by
 obtain⟨d,rfl⟩:=wB h
 have e:(u != 0)=false:=by simpa using hu
 rw[zah (fd:=fd20) rfl]
 simp(disch:=apply zq;omega) only[go_sem,simprocAttr,↓Nat.reduceEqDiff,xx,fd20,m20,e]
theorem qg6 (h:1<=n){t w u x:Int}(hu:t=x):call gl tab n 62 [.agg [i64 t,i64 w,i64 u],.cp .sc (i64 x)] []=some (.bool true,[],[]):=by
 obtain⟨d,rfl⟩:=wB h
 have e:(t==x)=true:=by simpa using hu
 rw[zah (fd:=fd62) rfl]
 simp(disch:=apply zq;omega) only[go_sem,simprocAttr,↓Nat.reduceEqDiff,xx,fd62,m62,e]
theorem qg7 (h:1<=n){t w u x:Int}(hu:¬t=x):call gl tab n 62 [.agg [i64 t,i64 w,i64 u],.cp .sc (i64 x)] []=some (.bool false,[],[]):=by
 obtain⟨d,rfl⟩:=wB h
 have e:(t==x)=false:=by simpa using hu
 rw[zah (fd:=fd62) rfl]
 simp(disch:=apply zq;omega) only[go_sem,simprocAttr,↓Nat.reduceEqDiff,xx,fd62,m62,e]
def L45 :MC:=match m45 with| .seq _ (.seq (.seq _ (.block _ (.loop _ b))) _)=>b|_=>.skip
def S45 (fn:AV)(f:Bool)(m:Sh)(l:List A3)(i:Nat):St:=⟨[.set 8 (i64 i),.set 7 (i64 l.length),.set 1 fn,.set 0 (.lst f m (ac l))],[]⟩
theorem z2t (h:2<=n){f:Bool}{m:Sh}{l:List A3}(hm:Mk l m sA)(hl:l.length<2^60) :
  ∃b:Bool,(b=true↔∃i,i<l.length/\(aat l i).u≠0)/\∃k:Nat,k<2^60/\call gl tab n 45 [.lst f m (ac l),.fn 20 []] []=some (i64 (if b=true then(k:Int)else -1),[],[]):=by
 obtain⟨d,rfl⟩:=wB h
 have hst:∀i,i<l.length->¬(aat l i).u≠0->zbp [.slot 0,.slot 1,.slot 7,.slot 8] (evC gl (call gl tab (d+1)) L45 (S45 (.fn 20 []) f m l i))=some (S45 (.fn 20 []) f m l (i+1)):=fun i hi hp=>by
  have hx:=zeo hi
  obtain rfl:=hm.eq hi
  have c:=@z7s gl (d+1) (by omega) (aat l i).t (aat l i).w (aat l i).u  hp
  simp(disch:=apply zq;omega) only[go_sem,simprocAttr,↓Nat.reduceEqDiff,xx,L45,m45,S45,zac,hx,c]
 have hf:∀i,i<l.length->(aat l i).u≠0->out1 4 (evC gl (call gl tab (d+1)) L45 (S45 (.fn 20 []) f m l i))=some (.ret,i64 i):=fun i hi hp=>by
  have hx:=zeo hi
  obtain rfl:=hm.eq hi
  have c:=@z7r gl (d+1) (by omega) (aat l i).t (aat l i).w (aat l i).u  hp
  simp(disch:=apply zq;omega) only[go_sem,simprocAttr,↓Nat.reduceEqDiff,xx,L45,m45,S45,zac,hx,c]
 rw[zah (fd:=fd45) rfl]
 rcases first_fail (fun i=>¬(aat l i).u≠0) l.length with ha|⟨k,hk,hb',he⟩
 . refine⟨false,⟨(fun h=>by cases h),fun⟨i,hi,hp⟩=>absurd hp (ha i hi)⟩,0,by omega,?_⟩
   have hs2:=fun i hi=>hst i hi (ha i hi)
   simp only[L45,m45]at hs2
   simp(disch:=apply zq;omega) only[go_sem,simprocAttr,↓Nat.reduceEqDiff,xx,fd45,m45,zac]
   rw[zao (S45 (.fn 20 []) f m l) l.length (by unfold LF;omega)]
   . simp(disch:=apply zq;omega) only[go_sem,simprocAttr,↓Nat.reduceEqDiff,xx,S45,zac]
   . simp(disch:=apply zq;omega) only[go_sem,simprocAttr,↓Nat.reduceEqDiff,xx,S45,zac]
   . exact hs2
   . simp(disch:=apply zq;omega) only[go_sem,simprocAttr,↓Nat.reduceEqDiff,xx,S45,zac]
 . have he:=Classical.not_not.1 he
   obtain⟨st,hst',hg⟩:=zcv (hf k hk he)
   have hs2:=fun i (hi:i<k)=>hst i (by omega) (hb' i hi)
   simp only[L45,m45]at hs2 hst'
   refine⟨true,⟨fun _=>⟨k,hk,he⟩,fun _=>rfl⟩,k,by omega,?_⟩
   simp(disch:=apply zq;omega) only[go_sem,simprocAttr,↓Nat.reduceEqDiff,xx,fd45,m45,zac]
   rw[zao (S45 (.fn 20 []) f m l) k (by unfold LF;omega),hst']
   . simp(disch:=apply zq;omega) only[go_sem,simprocAttr,↓Nat.reduceEqDiff,xx,hg]
   . simp(disch:=apply zq;omega) only[go_sem,simprocAttr,↓Nat.reduceEqDiff,xx,S45,zac]
   . exact hs2
   . rw[hst'];rfl
theorem z2u (h:3<=n){f:Bool}{m:Sh}{l:List A3}(hm:Mk l m sA)(hl:l.length<2^60) :
  ∃b:Bool,(b=true↔∃i,i<l.length/\(aat l i).u≠0)/\call gl tab n 22 [.lst f m (ac l),.fn 20 []] []=some (.bool b,[],[]):=by
 obtain⟨d,rfl⟩:=wB h
 obtain⟨b,hb,k,hk,c⟩:=@z2t gl (d+2) (by omega) f m l hm hl
 refine⟨b,hb,?_⟩
 rw[zah (fd:=fd22) rfl]
 cases b with
 | true=>rw[if_pos rfl]at c;simp(disch:=apply zq;omega) only[go_sem,simprocAttr,↓Nat.reduceEqDiff,xx,fd22,m22,c]
 | false=>rw[if_neg (by decide)]at c;simp(disch:=apply zq;omega) only[go_sem,simprocAttr,↓Nat.reduceEqDiff,xx,fd22,m22,c]
theorem qd8 (h:2<=n){f:Bool}{m:Sh}{l:List A3}(hm:Mk l m sA)(hl:l.length<2^60)(x:Int) :
  ∃b:Bool,(b=true↔∃i,i<l.length/\(aat l i).t=x)/\∃k:Nat,k<2^60/\call gl tab n 45 [.lst f m (ac l),.fn 62 [.cp .sc (i64 x)]] []=some (i64 (if b=true then(k:Int)else -1),[],[]):=by
 obtain⟨d,rfl⟩:=wB h
 have hst:∀i,i<l.length->¬(aat l i).t=x->zbp [.slot 0,.slot 1,.slot 7,.slot 8] (evC gl (call gl tab (d+1)) L45 (S45 (.fn 62 [.cp .sc (i64 x)]) f m l i))=some (S45 (.fn 62 [.cp .sc (i64 x)]) f m l (i+1)):=fun i hi hp=>by
  have hx:=zeo hi
  obtain rfl:=hm.eq hi
  have c:=@qg7 gl (d+1) (by omega) (aat l i).t (aat l i).w (aat l i).u x hp
  simp(disch:=apply zq;omega) only[go_sem,simprocAttr,↓Nat.reduceEqDiff,xx,L45,m45,S45,zac,hx,c]
 have hf:∀i,i<l.length->(aat l i).t=x->out1 4 (evC gl (call gl tab (d+1)) L45 (S45 (.fn 62 [.cp .sc (i64 x)]) f m l i))=some (.ret,i64 i):=fun i hi hp=>by
  have hx:=zeo hi
  obtain rfl:=hm.eq hi
  have c:=@qg6 gl (d+1) (by omega) (aat l i).t (aat l i).w (aat l i).u x hp
  simp(disch:=apply zq;omega) only[go_sem,simprocAttr,↓Nat.reduceEqDiff,xx,L45,m45,S45,zac,hx,c]
 rw[zah (fd:=fd45) rfl]
 rcases first_fail (fun i=>¬(aat l i).t=x) l.length with ha|⟨k,hk,hb',he⟩
 . refine⟨false,⟨(fun h=>by cases h),fun⟨i,hi,hp⟩=>absurd hp (ha i hi)⟩,0,by omega,?_⟩
   have hs2:=fun i hi=>hst i hi (ha i hi)
   simp only[L45,m45]at hs2
   simp(disch:=apply zq;omega) only[go_sem,simprocAttr,↓Nat.reduceEqDiff,xx,fd45,m45,zac]
   rw[zao (S45 (.fn 62 [.cp .sc (i64 x)]) f m l) l.length (by unfold LF;omega)]
   . simp(disch:=apply zq;omega) only[go_sem,simprocAttr,↓Nat.reduceEqDiff,xx,S45,zac]
   . simp(disch:=apply zq;omega) only[go_sem,simprocAttr,↓Nat.reduceEqDiff,xx,S45,zac]
   . exact hs2
   . simp(disch:=apply zq;omega) only[go_sem,simprocAttr,↓Nat.reduceEqDiff,xx,S45,zac]
 . have he:=Classical.not_not.1 he
   obtain⟨st,hst',hg⟩:=zcv (hf k hk he)
   have hs2:=fun i (hi:i<k)=>hst i (by omega) (hb' i hi)
   simp only[L45,m45]at hs2 hst'
   refine⟨true,⟨fun _=>⟨k,hk,he⟩,fun _=>rfl⟩,k,by omega,?_⟩
   simp(disch:=apply zq;omega) only[go_sem,simprocAttr,↓Nat.reduceEqDiff,xx,fd45,m45,zac]
   rw[zao (S45 (.fn 62 [.cp .sc (i64 x)]) f m l) k (by unfold LF;omega),hst']
   . simp(disch:=apply zq;omega) only[go_sem,simprocAttr,↓Nat.reduceEqDiff,xx,hg]
   . simp(disch:=apply zq;omega) only[go_sem,simprocAttr,↓Nat.reduceEqDiff,xx,S45,zac]
   . exact hs2
   . rw[hst'];rfl
theorem qd9 (h:3<=n){f:Bool}{m:Sh}{l:List A3}(hm:Mk l m sA)(hl:l.length<2^60)(x:Int) :
  ∃b:Bool,(b=true↔∃i,i<l.length/\(aat l i).t=x)/\call gl tab n 22 [.lst f m (ac l),.fn 62 [.cp .sc (i64 x)]] []=some (.bool b,[],[]):=by
 obtain⟨d,rfl⟩:=wB h
 obtain⟨b,hb,k,hk,c⟩:=@qd8 gl (d+2) (by omega) f m l hm hl x
 refine⟨b,hb,?_⟩
 rw[zah (fd:=fd22) rfl]
 cases b with
 | true=>rw[if_pos rfl]at c;simp(disch:=apply zq;omega) only[go_sem,simprocAttr,↓Nat.reduceEqDiff,xx,fd22,m22,c]
 | false=>rw[if_neg (by decide)]at c;simp(disch:=apply zq;omega) only[go_sem,simprocAttr,↓Nat.reduceEqDiff,xx,fd22,m22,c]
theorem z7f (h:4<=n){f:Bool}{m:Sh}{l:List A3}(hm:Mk l m sA)(hl:l.length<2^60)(x:Int) :
  ∃b:Bool,(b=true↔∃i,i<l.length/\(aat l i).t=x)/\call gl tab n 49 [.lst f m (ac l),i64 x] []=some (.bool b,[],[]):=by
 obtain⟨d,rfl⟩:=wB h
 obtain⟨b,hb,c⟩:=@qd9 gl (d+3) (by omega) f m l hm hl x
 refine⟨b,hb,?_⟩
 rw[zah (fd:=fd49) rfl]
 simp(disch:=apply zq;omega) only[go_sem,simprocAttr,↓Nat.reduceEqDiff,xx,fd49,m49,c]
def L29 :MC:=match m29 with| .seq _ (.seq _ (.seq (.seq _ (.block _ (.loop _ b))) _))=>b|_=>.skip
def S29 (f f':Bool)(k k':Sh)(a:List Ob)(i:Nat):St:=⟨[.set 5 (i64 i),.set 1 (.lst f' k' (hs a)),.set 0 (.lst f k (hs a))],[]⟩
theorem z3b (h:1<=n){f f':Bool}{k k':Sh}{a:List Ob}(hm:Mk a k sO)(hm':Mk a k' sO)(hl:a.length<2^60):call gl tab n 29 [.lst f k (hs a),.lst f' k' (hs a)] []=some (.bool true,[],[]):=by
 obtain⟨d,rfl⟩:=wB h
 have hst:∀i,i<a.length->zbp [.slot 0,.slot 1,.slot 5] (evC gl (call gl tab d) L29 (S29 f f' k k' a i))=some (S29 f f' k k' a (i+1)):=fun i hi=>by
  have hx:=zeq hi
  obtain rfl:=hm.eq hi
  obtain rfl:=hm'.eq hi
  simp(disch:=apply zq;omega) only[go_sem,simprocAttr,↓Nat.reduceEqDiff,xx,L29,m29,S29,zaa,hx,eqAV,zlu,beq_self_eq_true]
 simp only[L29,m29]at hst
 rw[zah (fd:=fd29) rfl]
 simp(disch:=apply zq;omega) only[go_sem,simprocAttr,↓Nat.reduceEqDiff,xx,fd29,m29,zaa]
 rw[zao (S29 f f' k k' a) a.length (by unfold LF;omega)]
 . simp(disch:=apply zq;omega) only[go_sem,simprocAttr,↓Nat.reduceEqDiff,xx,S29,zaa]
 . simp(disch:=apply zq;omega) only[go_sem,simprocAttr,↓Nat.reduceEqDiff,xx,S29,zaa]
 . exact hst
 . simp(disch:=apply zq;omega) only[go_sem,simprocAttr,↓Nat.reduceEqDiff,xx,S29,zaa]
structure Sf where
 c:Int
 A:List A3
 H:List Ob
 w:Int
 s:Int
 a:Int
 L:List Int
structure Fl where
 fa:Bool
 fh:Bool
 fl:Bool
 ma:Sh
 mh:Sh
abbrev skV (S:Sf)(q:Fl):AV:=.agg [i64 S.w,i64 S.s,i64 S.a,.lst q.fl .sc (K.ns S.L)]
abbrev sfV (S:Sf)(q:Fl):AV:=.agg [i64 S.c,.lst q.fa q.ma (ac S.A),.lst q.fh q.mh (hs S.H),skV S q]
structure FlOk (S:Sf)(q:Fl):Prop where
 a:Mk S.A q.ma sA
 h:Mk S.H q.mh sO
theorem same_at (h:2<=n){S:Sf}{q q':Fl}(hq:FlOk S q)(hq':FlOk S q')(ha:S.A.length<2^60)(hh:S.H.length<2^60)(hL:S.L.length<2^20) :
  call gl tab n 10 [sfV S q,sfV S q'] []=some (.bool true,[],[]):=by
 obtain⟨d,rfl⟩:=wB h
 have c1:=@z3c gl (d+1) (by omega) q.fa q'.fa q.ma q'.ma S.A hq.a hq'.a ha
 have c2:=@z3b gl (d+1) (by omega) q.fh q'.fh q.mh q'.mh S.H hq.h hq'.h hh
 have c3:=@K.same_at gl (d+1) (by omega) q.fl q'.fl S.w S.s S.a S.L hL
 rw[zah (fd:=fd10) rfl]
 simp(disch:=apply zq;omega) only[go_sem,simprocAttr,↓Nat.reduceEqDiff,xx,fd10,m10,c1,c2,c3]
end Go.Proofs.S17
