/-
  Chapter 17: a name's place; a tenant's account. No condition.
-/
import Derived.Test.YthipjfnealbheaaDoorW17a
set_option linter.all false
open Nat renaming exists_eq_add_of_le'->wB,le_refl->wC
namespace Go.Proofs.S17
open Go Go.Ev Go.Proofs Go.Proofs.S17.Q
variable {gl :Gl} {n:Nat}
theorem zzq (h:1<=n)(a:List UInt8):call gl tab n 68 [.str a] []=some (.bool false,[],[]):=by
 obtain⟨d,rfl⟩:=wB h
 have e:(a != a)=false:=by simp
 rw[zah (fd:=fd68) rfl]
 simp(disch:=apply zq;omega) only[go_sem,simprocAttr,↓Nat.reduceEqDiff,xx,fd68,m68,e]
theorem ztc (h:2<=n)(a b:List UInt8):call gl tab n 55 [.str a,.str b] []=some (i64 (Bl.cmp a b),[],[]):=by
 obtain⟨d,rfl⟩:=wB h
 have c1:=@zzq gl (d+1) (by omega) a
 have c2:=@zzq gl (d+1) (by omega) b
 rw[zah (fd:=fd55) rfl]
 by_cases h1:Bl.lt a b=true
 . have e1:Bl.cmp a b=-1:=by rw[Bl.cmp,if_pos h1]
   simp(disch:=apply zq;omega) only[go_sem,simprocAttr,↓Nat.reduceEqDiff,xx,fd55,m55,c1,c2,e1,h1,z2q]
 . have h1':Bl.lt a b=false:=by simpa using h1
   by_cases h2:Bl.lt b a=true
   . have e1:Bl.cmp a b=1:=by rw[Bl.cmp,if_neg h1,if_pos h2]
     simp(disch:=apply zq;omega) only[go_sem,simprocAttr,↓Nat.reduceEqDiff,xx,fd55,m55,c1,c2,e1,h1',h2,z2q,z7u]
   . have e1:Bl.cmp a b=0:=by rw[Bl.cmp,if_neg h1,if_neg h2]
     have h2':Bl.lt b a=false:=by simpa using h2
     simp(disch:=apply zq;omega) only[go_sem,simprocAttr,↓Nat.reduceEqDiff,xx,fd55,m55,c1,c2,e1,h1',h2',z2q,z7u]
theorem z5x (h:3<=n)(o:Ob)(x:List UInt8):call gl tab n 54 [oV o,.str x] []=some (i64 (Bl.cmp o.nm x),[],[]):=by
 obtain⟨d,rfl⟩:=wB h
 have c1:=@ztc gl (d+2) (by omega) o.nm x
 rw[zah (fd:=fd54) rfl]
 simp(disch:=apply zq;omega) only[go_sem,simprocAttr,↓Nat.reduceEqDiff,xx,fd54,m54,c1]
def Srt (l:List Ob):Prop:=∀i j,i<j->j<l.length->Bl.lt (oat l i).nm (oat l j).nm=true
structure Pn (l:List Ob)(x:List UInt8)(k:Nat):Prop where
 le:k<=l.length
 lo:∀j,j<k->Bl.lt (oat l j).nm x=true
 hi:∀j,k<=j->j<l.length->Bl.lt (oat l j).nm x=false
def L53 :MC:=match m53 with| .seq _ (.seq _ (.seq _ (.seq (.block _ (.loop _ b)) _)))=>b|_=>.skip
def S53 (f:Bool)(m:Sh)(l:List Ob)(x:List UInt8)(a:Nat×Nat):St :=
 ⟨[.set 10 (i64 a.2),.set 9 (i64 a.1),.set 8 (i64 l.length),.set 2 (.fn 54 []),.set 1 (.str x),.set 0 (.lst f m (hs l))],[]⟩
def nxtN (l:List Ob)(x:List UInt8)(a:Nat×Nat):Nat×Nat:=if Bl.lt (oat l ((a.1+a.2)/2)).nm x=true then((a.1+a.2)/2+1,a.2)else(a.1,(a.1+a.2)/2)
def isAt (l:List Ob)(x:List UInt8)(k:Nat):Bool:=decide (k<l.length)&&decide ((oat l k).nm=x)
set_option maxHeartbeats 800000 in
theorem zvu (h:4<=n){f:Bool}{m:Sh}{l:List Ob}(hm:Mk l m sO)(hn:l.length<=8192)(hv:Srt l)(x:List UInt8) :
  ∃k:Nat,Pn l x k/\call gl tab n 53 [.lst f m (hs l),.str x,.fn 54 []] []=some (.tup [i64 k,.bool (isAt l x k)],[],[]):=by
 obtain⟨d,rfl⟩:=wB h
 have c47:=@z5x gl (d+3) (by omega)
 obtain⟨⟨k,k'⟩,⟨i1,i2,i3⟩,hgo,hit⟩:=zih (f:=evC gl (call gl tab (d+3)) L53) (ks:=[.slot 0,.slot 1,.slot 2,.slot 8,.slot 9,.slot 10]) (S53 f m l x)
  (fun a=>a.1<=a.2/\a.2<=l.length/\(∀t,t<a.1->Bl.lt (oat l t).nm x=true)/\∀t,a.2<=t->t<l.length->Bl.lt (oat l t).nm x=false) (fun a=>a.2-a.1)
  (nxtN l x) (fun a=>decide (a.1<a.2)) (a0:=(0,l.length)) (by unfold LF;simp;omega)
  ⟨Nat.zero_le _,wC _,fun t ht=>absurd ht (Nat.not_lt_zero _),fun t h1 h2=>absurd h2 (by simp at h1;omega)⟩
  (fun a ⟨h1,h2,h3,h4⟩ hg=>by
    obtain⟨i,j⟩:=a
    simp only[decide_eq_true_eq]at hg h1 h2 h3 h4 ⊢
    have hmid:=z7c i j (by omega)
    have hml:(i+j)/2<l.length:=by omega
    have hx:=zeq hml
    have hm2:=hm.eq hml
    have c:=c47 (oat l ((i+j)/2)) x
    by_cases hc:Bl.lt (oat l ((i+j)/2)).nm x=true
    . have e:nxtN l x (i,j)=((i+j)/2+1,j):=if_pos hc
      rw[e]
      refine⟨?_,⟨by simp only;omega,h2,fun t ht'=> ?_,h4⟩,by simp only;omega⟩
      . have hc':=Bl.cmp_lt.2 hc
        generalize Bl.cmp (oat l ((i+j)/2)).nm x=cv at *
        generalize (i+j)/2=m' at *
        simp(disch:=apply zq;omega) only[go_sem,simprocAttr,↓Nat.reduceEqDiff,xx,L53,m53,S53,hmid,hx,hm2,zaa,c]
      . simp only at ht'
        by_cases h5:t=(i+j)/2
        . rw[h5];exact hc
        . exact Bl.trans (hv t _ (show t<(i+j)/2 by omega) hml) hc
    . have e:nxtN l x (i,j)=(i,(i+j)/2):=if_neg hc
      rw[e]
      have hcf:Bl.lt (oat l ((i+j)/2)).nm x=false:=by simpa using hc
      refine⟨?_,⟨by simp only;omega,by simp only;omega,h3,fun t ht' h6=> ?_⟩,by simp only;omega⟩
      . have hc':¬Bl.cmp (oat l ((i+j)/2)).nm x<0:=fun h=>hc (Bl.cmp_lt.1 h)
        generalize Bl.cmp (oat l ((i+j)/2)).nm x=cv at *
        generalize (i+j)/2=m' at *
        simp(disch:=apply zq;omega) only[go_sem,simprocAttr,↓Nat.reduceEqDiff,xx,L53,m53,S53,hmid,hx,hm2,zaa,c]
      . simp only at ht'
        by_cases h5:t=(i+j)/2
        . rw[h5];exact hcf
        . cases h7:Bl.lt (oat l t).nm x with
          | false=>rfl
          | true=>exact absurd (Bl.trans (hv _ t (show(i+j)/2<t by omega) h6) h7) hc)
  (fun a ⟨h1,h2,h3,h4⟩ hg=>by
    simp only[decide_eq_false_iff_not]at hg
    simp(disch:=apply zq;omega) only[go_sem,simprocAttr,↓Nat.reduceEqDiff,xx,L53,m53,S53,zaa])
 simp only[decide_eq_false_iff_not]at hgo i1 i2 i3
 obtain rfl:k=k':=by omega
 simp only[L53,m53]at hit
 refine⟨k,⟨i2,i3.1,i3.2⟩,?_⟩
 by_cases hkl:k<l.length
 . have hx:=zeq hkl
   have hm2:=hm.eq hkl
   have c:=c47 (oat l k) x
   have e:isAt l x k=(Bl.cmp (oat l k).nm x==0):=by
    rw[isAt,decide_eq_true hkl,Bool.true_and]
    cases hq:(Bl.cmp (oat l k).nm x==0)with
    | true=>exact decide_eq_true (Bl.cmp_eq.1 (by simpa using hq))
    | false=>exact decide_eq_false fun h=>by rw[Bl.cmp_eq.2 h]at hq;cases hq
   rw[e,zah (fd:=fd53) rfl]
   simp(disch:=apply zq;omega) only[go_sem,simprocAttr,↓Nat.reduceEqDiff,xx,fd53,m53,zaa]
   rw[hit _ (by simp(disch:=apply zq;omega) only[go_sem,simprocAttr,↓Nat.reduceEqDiff,xx,S53])]
   simp(disch:=apply zq;omega) only[go_sem,simprocAttr,↓Nat.reduceEqDiff,xx,S53,zaa,hx,hm2,c]
 . have e:isAt l x k=false:=by rw[isAt,decide_eq_false hkl,Bool.false_and]
   rw[e,zah (fd:=fd53) rfl]
   simp(disch:=apply zq;omega) only[go_sem,simprocAttr,↓Nat.reduceEqDiff,xx,fd53,m53,zaa]
   rw[hit _ (by simp(disch:=apply zq;omega) only[go_sem,simprocAttr,↓Nat.reduceEqDiff,xx,S53])]
   simp(disch:=apply zq;omega) only[go_sem,simprocAttr,↓Nat.reduceEqDiff,xx,S53,zaa]
theorem z9w {l:List Ob}{x:List UInt8}{k k':Nat}(h:Pn l x k)(h':Pn l x k'):k=k':=by
 rcases Nat.lt_trichotomy k k' with h1|h1|h1
 . have a:=h'.lo k h1
   rw[h.hi k (wC _) (by have:=h'.le;omega)]at a;cases a
 . exact h1
 . have a:=h.lo k' h1
   rw[h'.hi k' (wC _) (by have:=h.le;omega)]at a;cases a
theorem zhv (h:5<=n){f:Bool}{m:Sh}{l:List Ob}(hm:Mk l m sO)(hn:l.length<=8192)(hv:Srt l)(x:List UInt8) :
  ∃k:Nat,Pn l x k/\call gl tab n 38 [.lst f m (hs l),.str x] []=some (.tup [i64 k,.bool (isAt l x k)],[],[]):=by
 obtain⟨d,rfl⟩:=wB h
 obtain⟨k,hk,c⟩:=@zvu gl (d+4) (by omega) f m l hm hn hv x
 refine⟨k,hk,?_⟩
 rw[zah (fd:=fd38) rfl]
 simp(disch:=apply zq;omega) only[go_sem,simprocAttr,↓Nat.reduceEqDiff,xx,fd38,m38,c]
end Go.Proofs.S17
namespace Go.Proofs.S17
open Go Go.Ev Go.Proofs Go.Proofs.S17.Q
variable {gl :Gl} {n:Nat}
theorem z8f (h:1<=n){t w u:Int}(hu:u≠0):call gl tab n 20 [.agg [i64 t,i64 w,i64 u]] []=some (.bool true,[],[]):=by
 obtain⟨d,rfl⟩:=wB h
 have e:(u != 0)=true:=by simpa using hu
 rw[zah (fd:=fd20) rfl]
 simp(disch:=apply zq;omega) only[go_sem,simprocAttr,↓Nat.reduceEqDiff,xx,fd20,m20,e]
theorem z8g (h:1<=n){t w u:Int}(hu:¬u≠0):call gl tab n 20 [.agg [i64 t,i64 w,i64 u]] []=some (.bool false,[],[]):=by
 obtain⟨d,rfl⟩:=wB h
 have e:(u != 0)=false:=by simpa using hu
 rw[zah (fd:=fd20) rfl]
 simp(disch:=apply zq;omega) only[go_sem,simprocAttr,↓Nat.reduceEqDiff,xx,fd20,m20,e]
theorem qh8 (h:1<=n){t w u x:Int}(hu:t=x):call gl tab n 62 [.agg [i64 t,i64 w,i64 u],.cp .sc (i64 x)] []=some (.bool true,[],[]):=by
 obtain⟨d,rfl⟩:=wB h
 have e:(t==x)=true:=by simpa using hu
 rw[zah (fd:=fd62) rfl]
 simp(disch:=apply zq;omega) only[go_sem,simprocAttr,↓Nat.reduceEqDiff,xx,fd62,m62,e]
theorem qh9 (h:1<=n){t w u x:Int}(hu:¬t=x):call gl tab n 62 [.agg [i64 t,i64 w,i64 u],.cp .sc (i64 x)] []=some (.bool false,[],[]):=by
 obtain⟨d,rfl⟩:=wB h
 have e:(t==x)=false:=by simpa using hu
 rw[zah (fd:=fd62) rfl]
 simp(disch:=apply zq;omega) only[go_sem,simprocAttr,↓Nat.reduceEqDiff,xx,fd62,m62,e]
def L45 :MC:=match m45 with| .seq _ (.seq (.seq _ (.block _ (.loop _ b))) _)=>b|_=>.skip
def S45 (fn:AV)(f:Bool)(m:Sh)(l:List A3)(i:Nat):St:=⟨[.set 8 (i64 i),.set 7 (i64 l.length),.set 1 fn,.set 0 (.lst f m (ac l))],[]⟩
theorem z3c (h:2<=n){f:Bool}{m:Sh}{l:List A3}(hm:Mk l m sA)(hl:l.length<2^60) :
  ∃b:Bool,(b=true↔∃i,i<l.length/\(aat l i).u≠0)/\∃k:Nat,k<2^60/\call gl tab n 45 [.lst f m (ac l),.fn 20 []] []=some (i64 (if b=true then(k:Int)else -1),[],[]):=by
 obtain⟨d,rfl⟩:=wB h
 have hst:∀i,i<l.length->¬(aat l i).u≠0->zbn [.slot 0,.slot 1,.slot 7,.slot 8] (evC gl (call gl tab (d+1)) L45 (S45 (.fn 20 []) f m l i))=some (S45 (.fn 20 []) f m l (i+1)):=fun i hi hp=>by
  have hx:=zd7 hi
  obtain rfl:=hm.eq hi
  have c:=@z8g gl (d+1) (by omega) (aat l i).t (aat l i).w (aat l i).u  hp
  simp(disch:=apply zq;omega) only[go_sem,simprocAttr,↓Nat.reduceEqDiff,xx,L45,m45,S45,zac,hx,c]
 have hf:∀i,i<l.length->(aat l i).u≠0->out1 4 (evC gl (call gl tab (d+1)) L45 (S45 (.fn 20 []) f m l i))=some (.ret,i64 i):=fun i hi hp=>by
  have hx:=zd7 hi
  obtain rfl:=hm.eq hi
  have c:=@z8f gl (d+1) (by omega) (aat l i).t (aat l i).w (aat l i).u  hp
  simp(disch:=apply zq;omega) only[go_sem,simprocAttr,↓Nat.reduceEqDiff,xx,L45,m45,S45,zac,hx,c]
 rw[zah (fd:=fd45) rfl]
 rcases first_fail (fun i=>¬(aat l i).u≠0) l.length with ha|⟨k,hk,hb',he⟩
 . refine⟨false,⟨(fun h=>by cases h),fun⟨i,hi,hp⟩=>absurd hp (ha i hi)⟩,0,by omega,?_⟩
   have hs2:=fun i hi=>hst i hi (ha i hi)
   simp only[L45,m45]at hs2
   simp(disch:=apply zq;omega) only[go_sem,simprocAttr,↓Nat.reduceEqDiff,xx,fd45,m45,zac]
   rw[zam (S45 (.fn 20 []) f m l) l.length (by unfold LF;omega)]
   . simp(disch:=apply zq;omega) only[go_sem,simprocAttr,↓Nat.reduceEqDiff,xx,S45,zac]
   . simp(disch:=apply zq;omega) only[go_sem,simprocAttr,↓Nat.reduceEqDiff,xx,S45,zac]
   . exact hs2
   . simp(disch:=apply zq;omega) only[go_sem,simprocAttr,↓Nat.reduceEqDiff,xx,S45,zac]
 . have he:=Classical.not_not.1 he
   obtain⟨st,hst',hg⟩:=zcq (hf k hk he)
   have hs2:=fun i (hi:i<k)=>hst i (by omega) (hb' i hi)
   simp only[L45,m45]at hs2 hst'
   refine⟨true,⟨fun _=>⟨k,hk,he⟩,fun _=>rfl⟩,k,by omega,?_⟩
   simp(disch:=apply zq;omega) only[go_sem,simprocAttr,↓Nat.reduceEqDiff,xx,fd45,m45,zac]
   rw[zam (S45 (.fn 20 []) f m l) k (by unfold LF;omega),hst']
   . simp(disch:=apply zq;omega) only[go_sem,simprocAttr,↓Nat.reduceEqDiff,xx,hg]
   . simp(disch:=apply zq;omega) only[go_sem,simprocAttr,↓Nat.reduceEqDiff,xx,S45,zac]
   . exact hs2
   . rw[hst'];rfl
theorem z3d (h:3<=n){f:Bool}{m:Sh}{l:List A3}(hm:Mk l m sA)(hl:l.length<2^60) :
  ∃b:Bool,(b=true↔∃i,i<l.length/\(aat l i).u≠0)/\call gl tab n 22 [.lst f m (ac l),.fn 20 []] []=some (.bool b,[],[]):=by
 obtain⟨d,rfl⟩:=wB h
 obtain⟨b,hb,k,hk,c⟩:=@z3c gl (d+2) (by omega) f m l hm hl
 refine⟨b,hb,?_⟩
 rw[zah (fd:=fd22) rfl]
 cases b with
 | true=>rw[if_pos rfl]at c;simp(disch:=apply zq;omega) only[go_sem,simprocAttr,↓Nat.reduceEqDiff,xx,fd22,m22,c]
 | false=>rw[if_neg (by decide)]at c;simp(disch:=apply zq;omega) only[go_sem,simprocAttr,↓Nat.reduceEqDiff,xx,fd22,m22,c]
theorem qe4 (h:2<=n){f:Bool}{m:Sh}{l:List A3}(hm:Mk l m sA)(hl:l.length<2^60)(x:Int) :
  ∃b:Bool,(b=true↔∃i,i<l.length/\(aat l i).t=x)/\∃k:Nat,k<2^60/\call gl tab n 45 [.lst f m (ac l),.fn 62 [.cp .sc (i64 x)]] []=some (i64 (if b=true then(k:Int)else -1),[],[]):=by
 obtain⟨d,rfl⟩:=wB h
 have hst:∀i,i<l.length->¬(aat l i).t=x->zbn [.slot 0,.slot 1,.slot 7,.slot 8] (evC gl (call gl tab (d+1)) L45 (S45 (.fn 62 [.cp .sc (i64 x)]) f m l i))=some (S45 (.fn 62 [.cp .sc (i64 x)]) f m l (i+1)):=fun i hi hp=>by
  have hx:=zd7 hi
  obtain rfl:=hm.eq hi
  have c:=@qh9 gl (d+1) (by omega) (aat l i).t (aat l i).w (aat l i).u x hp
  simp(disch:=apply zq;omega) only[go_sem,simprocAttr,↓Nat.reduceEqDiff,xx,L45,m45,S45,zac,hx,c]
 have hf:∀i,i<l.length->(aat l i).t=x->out1 4 (evC gl (call gl tab (d+1)) L45 (S45 (.fn 62 [.cp .sc (i64 x)]) f m l i))=some (.ret,i64 i):=fun i hi hp=>by
  have hx:=zd7 hi
  obtain rfl:=hm.eq hi
  have c:=@qh8 gl (d+1) (by omega) (aat l i).t (aat l i).w (aat l i).u x hp
  simp(disch:=apply zq;omega) only[go_sem,simprocAttr,↓Nat.reduceEqDiff,xx,L45,m45,S45,zac,hx,c]
 rw[zah (fd:=fd45) rfl]
 rcases first_fail (fun i=>¬(aat l i).t=x) l.length with ha|⟨k,hk,hb',he⟩
 . refine⟨false,⟨(fun h=>by cases h),fun⟨i,hi,hp⟩=>absurd hp (ha i hi)⟩,0,by omega,?_⟩
   have hs2:=fun i hi=>hst i hi (ha i hi)
   simp only[L45,m45]at hs2
   simp(disch:=apply zq;omega) only[go_sem,simprocAttr,↓Nat.reduceEqDiff,xx,fd45,m45,zac]
   rw[zam (S45 (.fn 62 [.cp .sc (i64 x)]) f m l) l.length (by unfold LF;omega)]
   . simp(disch:=apply zq;omega) only[go_sem,simprocAttr,↓Nat.reduceEqDiff,xx,S45,zac]
   . simp(disch:=apply zq;omega) only[go_sem,simprocAttr,↓Nat.reduceEqDiff,xx,S45,zac]
   . exact hs2
   . simp(disch:=apply zq;omega) only[go_sem,simprocAttr,↓Nat.reduceEqDiff,xx,S45,zac]
 . have he:=Classical.not_not.1 he
   obtain⟨st,hst',hg⟩:=zcq (hf k hk he)
   have hs2:=fun i (hi:i<k)=>hst i (by omega) (hb' i hi)
   simp only[L45,m45]at hs2 hst'
   refine⟨true,⟨fun _=>⟨k,hk,he⟩,fun _=>rfl⟩,k,by omega,?_⟩
   simp(disch:=apply zq;omega) only[go_sem,simprocAttr,↓Nat.reduceEqDiff,xx,fd45,m45,zac]
   rw[zam (S45 (.fn 62 [.cp .sc (i64 x)]) f m l) k (by unfold LF;omega),hst']
   . simp(disch:=apply zq;omega) only[go_sem,simprocAttr,↓Nat.reduceEqDiff,xx,hg]
   . simp(disch:=apply zq;omega) only[go_sem,simprocAttr,↓Nat.reduceEqDiff,xx,S45,zac]
   . exact hs2
   . rw[hst'];rfl
theorem qe5 (h:3<=n){f:Bool}{m:Sh}{l:List A3}(hm:Mk l m sA)(hl:l.length<2^60)(x:Int) :
  ∃b:Bool,(b=true↔∃i,i<l.length/\(aat l i).t=x)/\call gl tab n 22 [.lst f m (ac l),.fn 62 [.cp .sc (i64 x)]] []=some (.bool b,[],[]):=by
 obtain⟨d,rfl⟩:=wB h
 obtain⟨b,hb,k,hk,c⟩:=@qe4 gl (d+2) (by omega) f m l hm hl x
 refine⟨b,hb,?_⟩
 rw[zah (fd:=fd22) rfl]
 cases b with
 | true=>rw[if_pos rfl]at c;simp(disch:=apply zq;omega) only[go_sem,simprocAttr,↓Nat.reduceEqDiff,xx,fd22,m22,c]
 | false=>rw[if_neg (by decide)]at c;simp(disch:=apply zq;omega) only[go_sem,simprocAttr,↓Nat.reduceEqDiff,xx,fd22,m22,c]
theorem z70 (h:4<=n){f:Bool}{m:Sh}{l:List A3}(hm:Mk l m sA)(hl:l.length<2^60)(x:Int) :
  ∃b:Bool,(b=true↔∃i,i<l.length/\(aat l i).t=x)/\call gl tab n 49 [.lst f m (ac l),i64 x] []=some (.bool b,[],[]):=by
 obtain⟨d,rfl⟩:=wB h
 obtain⟨b,hb,c⟩:=@qe5 gl (d+3) (by omega) f m l hm hl x
 refine⟨b,hb,?_⟩
 rw[zah (fd:=fd49) rfl]
 simp(disch:=apply zq;omega) only[go_sem,simprocAttr,↓Nat.reduceEqDiff,xx,fd49,m49,c]
def S29 (f f':Bool)(k k':Sh)(a:List Ob)(i:Nat):St:=⟨[.set 5 (i64 i),.set 1 (.lst f' k' (hs a)),.set 0 (.lst f k (hs a))],[]⟩
structure Sf where
 c:Int
 A:List A3
 H:List Ob
 w:Int
 s:Int
 a:Int
 L:List Int
structure Fl where
 fa:Bool
 fh:Bool
 fl:Bool
 ma:Sh
 mh:Sh
abbrev skV (S:Sf)(q:Fl):AV:=.agg [i64 S.w,i64 S.s,i64 S.a,.lst q.fl .sc (K.ns S.L)]
abbrev sfV (S:Sf)(q:Fl):AV:=.agg [i64 S.c,.lst q.fa q.ma (ac S.A),.lst q.fh q.mh (hs S.H),skV S q]
structure FlOk (S:Sf)(q:Fl):Prop where
 a:Mk S.A q.ma sA
 h:Mk S.H q.mh sO
end Go.Proofs.S17
