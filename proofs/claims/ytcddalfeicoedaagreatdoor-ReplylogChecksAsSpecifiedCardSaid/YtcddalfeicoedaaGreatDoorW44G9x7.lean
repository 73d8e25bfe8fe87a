/-
  Chapter 44: signed addresses. No condition.
-/
import Derived.Test.YtcddalfeicoedaaGreatDoorW44G8x7
set_option linter.unusedVariables false
set_option linter.unusedSimpArgs false
set_option linter.unusedSectionVars false
namespace Go.Proofs.S44.L
open Go Go.Ev Go.Proofs Go.Proofs.S44
open Go.Proofs.S44.H (strsAV zab zan Sml GlK GlR zaj zbr nsI zak zint zav encB za1 zaf)
variable {gl :Gl} {n:Nat}
structure Tk where
 cu:Int
 se:Int
 id:List UInt8
 cs:List Cd
 sgn:List UInt8
def cds (l:List Cd):List AV:=l.map cdAV
theorem zct (l:List Cd):(cds l).length=l.length:=by simp[cds]
def zCd :Cd:=⟨0,0,[],[],[],[],0⟩
def cat (l:List Cd)(i:Nat):Cd:=l.getD i zCd
theorem cds_at {l:List Cd}{i:Nat}(h:i<l.length):(cds l)[i]? =some (cdAV (cat l i)):=by simp[cds,cat,h]
theorem cat_mem {l:List Cd}{i:Nat}(h:i<l.length):cat l i∈l:=by
 rw[show cat l i=l[i] by simp[cat,h]];exact List.getElem_mem h
abbrev tkAV (x:Tk):AV:=.agg [i64 x.cu,i64 x.se,.str x.id,.lst false sCd (cds x.cs),bAV x.sgn]
structure TkOk (x:Tk):Prop where
 i:zbr [x.cu,x.se]
 cl:x.cs.length<=8
 c:∀y∈x.cs,CdOk y
 s:x.sgn.length=16
def csP (l:List Cd)(i:Nat):List (List UInt8):=((l.take i).map cdP).flatten
theorem csP_0 (l:List Cd):csP l 0=[]:=by simp[csP]
theorem csP_s {l:List Cd}{i:Nat}(h:i<l.length):csP l (i+1)=csP l i++cdP (cat l i):=by
 rw[csP,List.take_succ_eq_append_getElem h,List.map_append,List.flatten_append,show cat l i=l[i] by simp[cat,h]];simp[csP]
theorem csP_len {l:List Cd}:∀{i:Nat},i<=l.length->(csP l i).length=5*i
 | 0,_=>by rw[csP_0];rfl
 | i+1,h=>by
   rw[csP_s (by omega),List.length_append,csP_len (by omega)]
   show 5*i+5=5*(i+1);omega
def tkP (x:Tk):List (List UInt8):=[zaj [x.cu,x.se],x.id,x.sgn]++csP x.cs x.cs.length
def L74 :MC:=match m74 with| .seq _ (.seq _ (.seq _ (.seq _ (.block _ (.loop _ b)))))=>b|_=>.skip
def S74 (f:Bool)(x:List Cd)(q:List (List UInt8))(i:Nat):St:=⟨[.set 24 (i64 i),.set 23 (i64 x.length),.set 22 (.lst f sCd (cds x)),.set 0 (.ptr 100000 [])],[(100001,.dead),(100000,bx 8000 q),(8000,gw q)]⟩
theorem step74 {d:Nat}(hd:7<=d)(f:Bool){l:List Cd}(hl:l.length<=100)(hc:∀y∈l,CdOk y){q:List (List UInt8)}(hq0:q.length≠0)(hq:q.length<=900)(i:Nat)(hi:i<l.length) :
  zbm [.slot 0,.slot 22,.slot 23,.slot 24,.mv 100000 [0] 8000] (evC gl (call gl tab d) L74 (S74 f l q i))=some (S74 f l (q++cdP (cat l i)) (i+1)):=by
 have hx:=cds_at hi
 have c:=@cond_at gl d hd false q _ (hc _ (cat_mem hi)) hq0 hq
 have hcl:=zct l
 have l1:=zab q
 have s1:=zam q
 have l2:=zab (q++cdP (cat l i))
 have s2:=zam (q++cdP (cat l i))
 rw[S74,S74]
 unfold bx gw at *
 generalize q++cdP (cat l i)=q' at *
 generalize cat l i=y at *
 simp(disch:=(fail_if_success intro _);omega) only[go_sem,simprocAttr,↓Nat.reduceEqDiff,xx,L74,m74,hx,hcl,c,l1,l2,s1,s2]
theorem token_at (h:8<=n){xs:List (List UInt8)}{x:Tk}(hx:TkOk x)(h0:xs.length≠0)(hl:xs.length<=500) :
  call gl tab n 74 [.ptr 100000 [],tkAV x] [(100000,bx 100001 xs),(100001,gw xs)]=some (.tup [],[(100000,bx 20000 (xs++tkP x)),(100001,.dead)],[gw (xs++tkP x)]):=by
 obtain⟨d,rfl⟩:=Nat.exists_eq_add_of_le' h
 have c1:=@ints_o gl (d+7) (by omega) xs _ h0 (by omega) hx.i 2 rfl
 have c4:=@zid gl (d+7) (by omega) (xs++[zaj [x.cu,x.se]]) [x.id,x.sgn] (by simp) (by simp;omega) (by simp) 2 rfl
 have b1:=b16 hx.s
 have t1:=b16t hx.s
 have bq:=H.bytes_all x.sgn
 have hcl:=zct x.cs
 have cl8:=hx.cl
 rw[zax (fd:=fd74) rfl]
 have lx:=zab xs
 have sx:=zam xs
 have e:xs++tkP x=xs++[zaj [x.cu,x.se]]++[x.id,x.sgn]++csP x.cs x.cs.length:=by simp[tkP]
 rw[e]
 have hle:(xs++[zaj [x.cu,x.se]]++[x.id,x.sgn]).length<=510:=by simp;omega
 have hl0:(xs++[zaj [x.cu,x.se]]++[x.id,x.sgn]).length≠0:=by simp
 generalize zaj [x.cu,x.se]=z1 at *
 have e4:strsAV [x.id,x.sgn]=[.str x.id,.str x.sgn]:=rfl
 have e5:nsI [x.cu,x.se]=[i64 x.cu,i64 x.se]:=rfl
 unfold bx gw gi at *
 rw[e4]at c4
 rw[e5]at c1
 generalize xs++[z1]=q1 at *
 generalize q1++[x.id,x.sgn]=q2 at *
 have l1:=zab q1
 have s1:=zam q1
 have l2:=zab q2
 have s2:=zam q2
 obtain⟨Q,hQ⟩:∃Q:Nat->List (List UInt8),∀i,Q i=q2++csP x.cs i:=⟨_,fun _=>rfl⟩
 have st:∀i,i<x.cs.length->zbm [.slot 0,.slot 22,.slot 23,.slot 24,.mv 100000 [0] 8000] (evC gl (call gl tab (d+7)) L74 (S74 false x.cs (Q i) i))=some (S74 false x.cs (Q (i+1)) (i+1)):=fun i hi=>by
  have hc:=csP_len (l:=x.cs) (i:=i) (by omega)
  rw[hQ (i+1),csP_s hi,<-List.append_assoc,<-hQ i]
  exact step74 (by omega) false (by omega) hx.c (by rw[hQ,List.length_append];omega) (by rw[hQ,List.length_append];omega) i hi
 simp only[L74,m74]at st
 have Q0:Q 0=q2:=by rw[hQ,csP_0,List.append_nil]
 rw[<-hQ]
 have l3:=zab (Q x.cs.length)
 have s3:=zam (Q x.cs.length)
 clear hQ
 simp(maxSteps:=1000000) (disch:=(fail_if_success intro _);omega) only[go_sem,simprocAttr,↓Nat.reduceEqDiff,xx,fd74,m74,c1,c4,b1,t1,bq,hcl,lx,l1,l2,sx,s1,s2]
 rw[zal (fun i=>S74 false x.cs (Q i) i) x.cs.length (by unfold LF;omega)]
 . rw[S74];simp(disch:=(fail_if_success intro _);omega) only[go_sem,simprocAttr,↓Nat.reduceEqDiff,xx,hcl,l3,s3]
 . rw[S74,Q0];simp(disch:=(fail_if_success intro _);omega) only[go_sem,simprocAttr,↓Nat.reduceEqDiff,xx,lx,l1,l2,hcl]
 . exact st
 . rw[S74];simp(disch:=(fail_if_success intro _);omega) only[go_sem,simprocAttr,↓Nat.reduceEqDiff,xx,hcl,l3,s3]
abbrev tkAV0 (x:Tk):AV:=.agg [i64 x.cu,i64 x.se,.str x.id,.lst true .sc [],bAV x.sgn]
theorem token0_at (h:8<=n){xs:List (List UInt8)}{x:Tk}(hx:TkOk x)(hc:x.cs=[])(h0:xs.length≠0)(hl:xs.length<=500) :
  call gl tab n 74 [.ptr 100000 [],tkAV0 x] [(100000,bx 100001 xs),(100001,gw xs)]=some (.tup [],[(100000,bx 20000 (xs++tkP x)),(100001,.dead)],[gw (xs++tkP x)]):=by
 obtain⟨d,rfl⟩:=Nat.exists_eq_add_of_le' h
 have c1:=@ints_o gl (d+7) (by omega) xs _ h0 (by omega) hx.i 2 rfl
 have c4:=@zid gl (d+7) (by omega) (xs++[zaj [x.cu,x.se]]) [x.id,x.sgn] (by simp) (by simp;omega) (by simp) 2 rfl
 have b1:=b16 hx.s
 have t1:=b16t hx.s
 have bq:=H.bytes_all x.sgn
 rw[zax (fd:=fd74) rfl]
 have lx:=zab xs
 have sx:=zam xs
 have e:xs++tkP x=xs++[zaj [x.cu,x.se]]++[x.id,x.sgn]:=by simp[tkP,hc,csP]
 rw[e]
 generalize zaj [x.cu,x.se]=z1 at *
 have e4:strsAV [x.id,x.sgn]=[.str x.id,.str x.sgn]:=rfl
 have e5:nsI [x.cu,x.se]=[i64 x.cu,i64 x.se]:=rfl
 unfold bx gw gi at *
 rw[e4]at c4
 rw[e5]at c1
 generalize xs++[z1]=q1 at *
 generalize q1++[x.id,x.sgn]=q2 at *
 have l1:=zab q1
 have s1:=zam q1
 have l2:=zab q2
 have s2:=zam q2
 simp(maxSteps:=1000000) (disch:=(fail_if_success intro _);omega) only[go_sem,simprocAttr,↓Nat.reduceEqDiff,xx,fd74,m74,c1,c4,b1,t1,bq,lx,l1,l2,sx,s1,s2]
 rw[zal (fun i=>(⟨[.set 24 (i64 i),.set 23 (i64 0),.set 22 (.lst true .sc []),.set 0 (.ptr 100000 [])],[(100001,.dead),(100000,bx 8000 q2),(8000,gw q2)]⟩:St)) 0 (by unfold LF;omega)]
 . simp(disch:=(fail_if_success intro _);omega) only[go_sem,simprocAttr,↓Nat.reduceEqDiff,xx,l2,s2]
 . simp(disch:=(fail_if_success intro _);omega) only[go_sem,simprocAttr,↓Nat.reduceEqDiff,xx,lx,l1,l2]
 . intro i hi;omega
 . simp(disch:=(fail_if_success intro _);omega) only[go_sem,simprocAttr,↓Nat.reduceEqDiff,xx,l2,s2]
end Go.Proofs.S44.L
namespace Go.Proofs.S44.L
open Go Go.Ev Go.Proofs Go.Proofs.S44
open Go.Proofs.S44.H (strsAV zab zan Sml GlK GlR zaj zbr nsI zak zint zav encB za1 zaf)
variable {gl :Gl} {n:Nat}
structure Vy where
 h:List UInt8
 v:List (List UInt8)
 d:List UInt8
abbrev sVy :Sh:=.st [.sc,.sc,.sc]
abbrev vyAV (x:Vy):AV:=.agg [.str x.h,.lst false .sc (strsAV x.v),.str x.d]
def vys (l:List Vy):List AV:=l.map vyAV
theorem zcr (l:List Vy):(vys l).length=l.length:=by simp[vys]
def vat (l:List Vy)(i:Nat):Vy:=l.getD i ⟨[],[],[]⟩
theorem vys_at {l:List Vy}{i:Nat}(h:i<l.length):(vys l)[i]? =some (vyAV (vat l i)):=by simp[vys,vat,h]
theorem zk4 {l:List Vy}{i:Nat}(h:i<l.length):vat l i∈l:=by
 rw[show vat l i=l[i] by simp[vat,h]];exact List.getElem_mem h
def vyP (x:Vy):List (List UInt8):=[x.h,x.d,zbc x.v]
def vsP (l:List Vy)(i:Nat):List (List UInt8):=((l.take i).map vyP).flatten
theorem vsP_0 (l:List Vy):vsP l 0=[]:=by simp[vsP]
theorem vsP_s {l:List Vy}{i:Nat}(h:i<l.length):vsP l (i+1)=vsP l i++vyP (vat l i):=by
 rw[vsP,List.take_succ_eq_append_getElem h,List.map_append,List.flatten_append,show vat l i=l[i] by simp[vat,h]];simp[vsP]
theorem zi7 {l:List Vy}:∀{i:Nat},i<=l.length->(vsP l i).length=3*i
 | 0,_=>by rw[vsP_0];rfl
 | i+1,h=>by
   rw[vsP_s (by omega),List.length_append,zi7 (by omega)]
   show 3*i+3=3*(i+1);omega
structure Rl where
 nm:List UInt8
 pat:List UInt8
 tg:List (List UInt8)
 fr:Int
 sl:Int
 dn:Int
 ng:Int
 vy:List Vy
 al:Cd
 sg:Bool
 co:Int
 pr:List UInt8
abbrev sRl :Sh:=.st [.sc,.sc,.sc,.sc,.sc,.sc,.sc,.sc,sCd,.sc,.sc,.sc]
abbrev rlAV (x:Rl):AV:=.agg [.str x.nm,.str x.pat,.lst false .sc (strsAV x.tg),i64 x.fr,i64 x.sl,i64 x.dn,i64 x.ng,.lst false sVy (vys x.vy),cdAV x.al,.bool x.sg,i64 x.co,.str x.pr]
def fl (b:Bool):Int:=if b then 1 else 0
structure RlOk (x:Rl):Prop where
 i:zbr [x.fr,x.sl,x.dn,x.ng,fl x.sg,x.co]
 t:x.tg.length<=20
 v:x.vy.length<=8
 vv:∀y∈x.vy,Sml y.v
 a:CdOk x.al
def rlP (x:Rl):List (List UInt8):=[x.nm,x.pat,x.pr]++[zaj [x.fr,x.sl,x.dn,x.ng,fl x.sg,x.co]]++x.tg++vsP x.vy x.vy.length++cdP x.al
theorem flag_at (h:1<=n)(b:Bool):call gl tab n 124 [.bool b] []=some (i64 (fl b),[],[]):=by
 obtain⟨d,rfl⟩:=Nat.exists_eq_add_of_le' h
 rw[zad (fd:=fd124) rfl]
 cases b
 . simp(disch:=(fail_if_success intro _);omega) only[go_sem,simprocAttr,↓Nat.reduceEqDiff,xx,fd124,m124];rfl
 . simp(disch:=(fail_if_success intro _);omega) only[go_sem,simprocAttr,↓Nat.reduceEqDiff,xx,fd124,m124];rfl
def L75 :MC:=match m75 with| .seq _ (.seq _ (.seq _ (.seq _ (.seq (.seq _ (.block _ (.loop _ b))) _))))=>b|_=>.skip
def S75 (f:Bool)(x:Rl)(l:List Vy)(q:List (List UInt8))(i:Nat):St:=⟨[.set 38 (i64 i),.set 37 (i64 l.length),.set 36 (.lst f sVy (vys l)),.set 3 (.ptr 3 []),.set 0 (.ptr 100000 [])],[(100001,.dead),(100000,bx 8000 q),(8000,gw q),(3,.fix sRl (rlAV x))]⟩
theorem step75 {d:Nat}(hd:7<=d)(f:Bool)(x:Rl){l:List Vy}(hl:l.length<=100)(hc:∀y∈l,Sml y.v){q:List (List UInt8)}(hq0:q.length≠0)(hq:q.length<=900)(i:Nat)(hi:i<l.length) :
  zbm [.slot 0,.slot 3,.slot 36,.slot 37,.slot 38,.key 3,.mv 100000 [0] 8000] (evC gl (call gl tab d) L75 (S75 f x l q i))=some (S75 f x l (q++vyP (vat l i)) (i+1)):=by
 have hx:=vys_at hi
 have c0:=@zfc gl d (by omega) false _ (hc _ (zk4 hi))
 have c:=@zid gl d (by omega) q (vyP (vat l i)) hq0 (by omega) (by simp[vyP]) 3 rfl
 have hcl:=zcr l
 have t:List.take (zbc (vat l i).v).length (zac (zbc (vat l i).v))=zac (zbc (vat l i).v):=List.take_of_length_le (by rw[zaa];exact Nat.le_refl _)
 have e4:strsAV (vyP (vat l i))=[.str (vat l i).h,.str (vat l i).d,.str (zbc (vat l i).v)]:=rfl
 have l1:=zab q
 have s1:=zam q
 have l2:=zab (q++vyP (vat l i))
 have s2:=zam (q++vyP (vat l i))
 rw[S75,S75]
 unfold bx gw at *
 rw[e4]at c
 generalize q++vyP (vat l i)=q' at *
 generalize zbc (vat l i).v=z at *
 generalize vat l i=y at *
 clear e4
 simp(disch:=(fail_if_success intro _);omega) only[go_sem,simprocAttr,↓Nat.reduceEqDiff,xx,L75,m75,hx,hcl,c0,c,H.noImms_bytesAV,zaa,t,l1,l2,s1,s2]
theorem rule_at (h:8<=n){xs:List (List UInt8)}{x:Rl}(hx:RlOk x)(h0:xs.length≠0)(hl:xs.length<=500) :
  call gl tab n 75 [.ptr 100000 [],rlAV x] [(100000,bx 100001 xs),(100001,gw xs)]=some (.tup [],[(100000,bx 20000 (xs++rlP x)),(100001,.dead)],[gw (xs++rlP x)]):=by
 obtain⟨d,rfl⟩:=Nat.exists_eq_add_of_le' h
 have e:xs++rlP x=xs++[x.nm,x.pat,x.pr]++[zaj [x.fr,x.sl,x.dn,x.ng,fl x.sg,x.co]]++x.tg++vsP x.vy x.vy.length++cdP x.al:=by simp[rlP]
 rw[e]
 have tg:=hx.t
 have vy:=hx.v
 have c0:=@flag_at gl (d+7) (by omega) x.sg
 have c1:=@zid gl (d+7) (by omega) xs [x.nm,x.pat,x.pr] h0 (by omega) (by simp) 3 rfl
 have c2:=@ints_o gl (d+7) (by omega) (xs++[x.nm,x.pat,x.pr]) _ (by simp) (by simp;omega) hx.i 6 rfl
 have c3:=@add_l gl (d+7) (by omega) false (xs++[x.nm,x.pat,x.pr]++[zaj [x.fr,x.sl,x.dn,x.ng,fl x.sg,x.co]]) x.tg (by simp) (by simp;omega) (by omega)
 have hv:=zi7 (l:=x.vy) (Nat.le_refl _)
 have c5:=@cond_at gl (d+7) (by omega) false (xs++[x.nm,x.pat,x.pr]++[zaj [x.fr,x.sl,x.dn,x.ng,fl x.sg,x.co]]++x.tg++vsP x.vy x.vy.length) x.al hx.a (by simp) (by simp;omega)
 have hle:(xs++[x.nm,x.pat,x.pr]++[zaj [x.fr,x.sl,x.dn,x.ng,fl x.sg,x.co]]++x.tg).length<=600:=by simp;omega
 have hl0:(xs++[x.nm,x.pat,x.pr]++[zaj [x.fr,x.sl,x.dn,x.ng,fl x.sg,x.co]]++x.tg).length≠0:=by simp
 have lx:=zab xs
 have sx:=zam xs
 have e4:strsAV [x.nm,x.pat,x.pr]=[.str x.nm,.str x.pat,.str x.pr]:=rfl
 have e5:nsI [x.fr,x.sl,x.dn,x.ng,fl x.sg,x.co]=[i64 x.fr,i64 x.sl,i64 x.dn,i64 x.ng,i64 (fl x.sg),i64 x.co]:=rfl
 rw[zax (fd:=fd75) rfl]
 unfold bx gw gi at *
 rw[e4]at c1
 rw[e5]at c2
 generalize zaj [x.fr,x.sl,x.dn,x.ng,fl x.sg,x.co]=z1 at *
 generalize xs++[x.nm,x.pat,x.pr]=q1 at *
 generalize q1++[z1]=q2 at *
 generalize q2++x.tg=q3 at *
 have l1:=zab q1
 have s1:=zam q1
 have l2:=zab q2
 have s2:=zam q2
 have l3:=zab q3
 have s3:=zam q3
 have hcl:=zcr x.vy
 have htl:=zab x.tg
 obtain⟨Q,hQ⟩:∃Q:Nat->List (List UInt8),∀i,Q i=q3++vsP x.vy i:=⟨_,fun _=>rfl⟩
 have st:∀i,i<x.vy.length->zbm [.slot 0,.slot 3,.slot 36,.slot 37,.slot 38,.key 3,.mv 100000 [0] 8000] (evC gl (call gl tab (d+7)) L75 (S75 false x x.vy (Q i) i))=some (S75 false x x.vy (Q (i+1)) (i+1)):=fun i hi=>by
  have hc:=zi7 (l:=x.vy) (i:=i) (by omega)
  rw[hQ (i+1),vsP_s hi,<-List.append_assoc,<-hQ i]
  exact step75 (by omega) false _ (by omega) hx.vv (by rw[hQ,List.length_append];omega) (by rw[hQ,List.length_append];omega) i hi
 simp only[L75,m75]at st
 have Q0:Q 0=q3:=by rw[hQ,vsP_0,List.append_nil]
 rw[<-hQ]at c5 ⊢
 have l4:=zab (Q x.vy.length)
 have s4:=zam (Q x.vy.length)
 generalize hq4:Q x.vy.length++cdP x.al=q4 at *
 have l5:=zab q4
 have s5:=zam q4
 clear hQ hq4
 simp(maxSteps:=1000000) (disch:=(fail_if_success intro _);omega) only[go_sem,simprocAttr,↓Nat.reduceEqDiff,xx,fd75,m75,c0,c1,c2,c3,hcl,htl,lx,l1,l2,l3,sx,s1,s2,s3]
 rw[zal (fun i=>S75 false x x.vy (Q i) i) x.vy.length (by unfold LF;omega)]
 . rw[S75];simp(disch:=(fail_if_success intro _);omega) only[go_sem,simprocAttr,↓Nat.reduceEqDiff,xx,hcl,l4,s4,c5,l5,s5]
 . rw[S75,Q0];simp(disch:=(fail_if_success intro _);omega) only[go_sem,simprocAttr,↓Nat.reduceEqDiff,xx,lx,l1,l2,l3,hcl]
 . exact st
 . rw[S75];simp(disch:=(fail_if_success intro _);omega) only[go_sem,simprocAttr,↓Nat.reduceEqDiff,xx,hcl,l4,s4]
abbrev rlAV0 (x:Rl):AV:=.agg [.str x.nm,.str x.pat,.lst true .sc [],i64 x.fr,i64 x.sl,i64 x.dn,i64 x.ng,.lst true .sc [],cdAVf true x.al,.bool x.sg,i64 x.co,.str x.pr]
theorem rule0_at (h:8<=n){xs:List (List UInt8)}{x:Rl}(hx:RlOk x)(hg:x.tg=[])(hv0:x.vy=[])(h0:xs.length≠0)(hl:xs.length<=500) :
  call gl tab n 75 [.ptr 100000 [],rlAV0 x] [(100000,bx 100001 xs),(100001,gw xs)]=some (.tup [],[(100000,bx 20000 (xs++rlP x)),(100001,.dead)],[gw (xs++rlP x)]):=by
 obtain⟨d,rfl⟩:=Nat.exists_eq_add_of_le' h
 have e:xs++rlP x=xs++[x.nm,x.pat,x.pr]++[zaj [x.fr,x.sl,x.dn,x.ng,fl x.sg,x.co]]++[]++cdP x.al:=by simp[rlP,hg,hv0,vsP]
 rw[e]
 have c0:=@flag_at gl (d+7) (by omega) x.sg
 have c1:=@zid gl (d+7) (by omega) xs [x.nm,x.pat,x.pr] h0 (by omega) (by simp) 3 rfl
 have c2:=@ints_o gl (d+7) (by omega) (xs++[x.nm,x.pat,x.pr]) _ (by simp) (by simp;omega) hx.i 6 rfl
 have c3:=@add_l gl (d+7) (by omega) true (xs++[x.nm,x.pat,x.pr]++[zaj [x.fr,x.sl,x.dn,x.ng,fl x.sg,x.co]]) [] (by simp) (by simp;omega) (by simp)
 have c5:=@cond_at gl (d+7) (by omega) true (xs++[x.nm,x.pat,x.pr]++[zaj [x.fr,x.sl,x.dn,x.ng,fl x.sg,x.co]]++[]) x.al hx.a (by simp) (by simp;omega)
 have lx:=zab xs
 have sx:=zam xs
 have e4:strsAV [x.nm,x.pat,x.pr]=[.str x.nm,.str x.pat,.str x.pr]:=rfl
 have e5:nsI [x.fr,x.sl,x.dn,x.ng,fl x.sg,x.co]=[i64 x.fr,i64 x.sl,i64 x.dn,i64 x.ng,i64 (fl x.sg),i64 x.co]:=rfl
 have e6:strsAV []=[]:=rfl
 rw[zax (fd:=fd75) rfl]
 unfold bx gw gi at *
 rw[e4]at c1
 rw[e5]at c2
 rw[e6]at c3
 generalize zaj [x.fr,x.sl,x.dn,x.ng,fl x.sg,x.co]=z1 at *
 generalize xs++[x.nm,x.pat,x.pr]=q1 at *
 generalize q1++[z1]=q2 at *
 generalize q2++[]=q3 at *
 generalize q3++cdP x.al=q4 at *
 have l1:=zab q1
 have s1:=zam q1
 have l2:=zab q2
 have s2:=zam q2
 have l3:=zab q3
 have s3:=zam q3
 have l5:=zab q4
 have s5:=zam q4
 simp(maxSteps:=1000000) (disch:=(fail_if_success intro _);omega) only[go_sem,simprocAttr,↓Nat.reduceEqDiff,xx,fd75,m75,c0,c1,c2,c3,lx,l1,l2,l3,sx,s1,s2,s3]
 rw[zal (fun i=>(⟨[.set 38 (i64 i),.set 37 (i64 0),.set 36 (.lst true .sc []),.set 3 (.ptr 3 []),.set 0 (.ptr 100000 [])],[(100001,.dead),(100000,bx 8000 q3),(8000,gw q3),(3,.fix sRl (rlAV0 x))]⟩:St)) 0 (by unfold LF;omega)]
 . simp(disch:=(fail_if_success intro _);omega) only[go_sem,simprocAttr,↓Nat.reduceEqDiff,xx,l3,s3,c5,l5,s5]
 . simp(disch:=(fail_if_success intro _);omega) only[go_sem,simprocAttr,↓Nat.reduceEqDiff,xx,lx,l1,l2,l3]
 . intro i hi;omega
 . simp(disch:=(fail_if_success intro _);omega) only[go_sem,simprocAttr,↓Nat.reduceEqDiff,xx,l3,s3]
end Go.Proofs.S44.L
namespace Go.Proofs.S44.L
open Go Go.Ev Go.Proofs Go.Proofs.S44
open Go.Proofs.S44.H (strsAV zab zan Sml GlK GlR zaj zbr nsI zak zint zav encB za1 zaf)
variable {gl :Gl} {n:Nat}
structure Hr where
 n:List UInt8
 v:List UInt8
abbrev sHr :Sh:=.st [.sc,.sc]
abbrev hrAV (x:Hr):AV:=.agg [.str x.n,.str x.v]
def hrs (l:List Hr):List AV:=l.map hrAV
theorem zdb (l:List Hr):(hrs l).length=l.length:=by simp[hrs]
def hat (l:List Hr)(i:Nat):Hr:=l.getD i ⟨[],[]⟩
theorem hrs_at {l:List Hr}{i:Nat}(h:i<l.length):(hrs l)[i]? =some (hrAV (hat l i)):=by simp[hrs,hat,h]
def hrP (x:Hr):List (List UInt8):=[x.n,x.v]
def hsP (l:List Hr)(i:Nat):List (List UInt8):=((l.take i).map hrP).flatten
theorem hsP_0 (l:List Hr):hsP l 0=[]:=by simp[hsP]
theorem hsP_s {l:List Hr}{i:Nat}(h:i<l.length):hsP l (i+1)=hsP l i++hrP (hat l i):=by
 rw[hsP,List.take_succ_eq_append_getElem h,List.map_append,List.flatten_append,show hat l i=l[i] by simp[hat,h]];simp[hsP]
theorem zh7 {l:List Hr}:∀{i:Nat},i<=l.length->(hsP l i).length=2*i
 | 0,_=>by rw[hsP_0];rfl
 | i+1,h=>by
   rw[hsP_s (by omega),List.length_append,zh7 (by omega)]
   show 2*i+2=2*(i+1);omega
structure Re where
 site:Int
 seq:Int
 ad:List UInt8
 cl:List UInt8
 co:List UInt8
 sx:Int
 lo:Int
 hi:Int
 hs:List Hr
 tk:Tk
 pol:List UInt8
 rl:Rl
 us:Int
 sp:Sp
 mo:Int
 fr:Int
 to:Int
 dat:List UInt8
 le:Le
 he:Int
 ca:Int
abbrev sTk :Sh:=.st [.sc,.sc,.sc,.sc,.ar 16 .sc]
abbrev sSp :Sh:=.st [.sc,.sc,.sc,.sc,.ar 16 .sc,.sc,.st [.sc,.sc],.sc,.sc,.ar 16 .sc]
abbrev sRe :Sh:=.st [.sc,.sc,.st [.sc,.sc,.sc,.sc,.st [.sc,.sc]],.sc,sTk,.ar 16 .sc,sRl,.sc,sSp,.sc,.st [.sc,.sc],.ar 16 .sc,sTk,.sc,.sc]
abbrev reAV (x:Re):AV:=.agg [i64 x.site,i64 x.seq,.agg [.str x.ad,.str x.cl,.str x.co,i64 x.sx,.agg [i64 x.lo,i64 x.hi]],.lst false sHr (hrs x.hs),tkAV x.tk,bAV x.pol,rlAV x.rl,i64 x.us,spAV x.sp,i64 x.mo,.agg [i64 x.fr,i64 x.to],bAV x.dat,leAV x.le,i64 x.he,i64 x.ca]
abbrev nmS (x:Re):List Int:=[x.site,x.seq,x.mo,x.fr,x.to,x.he,x.ca,x.us,x.hs.length,x.tk.cs.length,x.rl.tg.length,x.rl.vy.length]
structure ReOk (x:Re):Prop where
 i:zbr (nmS x)
 a:zbr [x.sx,x.lo,x.hi]
 h:x.hs.length<=10
 t:TkOk x.tk
 p:x.pol.length=16
 r:RlOk x.rl
 s:SpOk x.sp
 d:x.dat.length=16
 l:LeOk x.le
def p1 (x:Re):List (List UInt8):=[zaj (nmS x)]++[x.dat,x.pol,x.ad,x.cl,x.co]++[zaj [x.sx,x.lo,x.hi]]
def reP (x:Re):List (List UInt8):=p1 x++hsP x.hs x.hs.length++tkP x.tk++rlP x.rl++spP x.sp++[x.sp.sgn]++leP x.le++[x.le.sgn]
def L24 :MC:=match m24 with| .seq _ (.seq _ (.seq _ (.seq _ (.seq _ (.seq _ (.seq (.seq _ (.block _ (.loop _ b))) _))))))=>b|_=>.skip
def S24 (f:Bool)(x:Re)(l:List Hr)(q:List (List UInt8))(i:Nat):St:=⟨[.set 85 (i64 i),.set 84 (i64 l.length),.set 83 (.lst f sHr (hrs l)),.set 4 (.fn 2000072 [.ptr 9 []]),.set 3 (.ptr 9 []),.set 1 (.ptr 1 [])],[(6090,gw q),(9,bx 6090 q),(1,.fix sRe (reAV x))]⟩
theorem step24 {d:Nat}(hd:7<=d)(f:Bool)(x:Re){l:List Hr}(hl:l.length<=100){q:List (List UInt8)}(hq0:q.length≠0)(hq:q.length<=900)(i:Nat)(hi:i<l.length) :
  zbm [.slot 1,.slot 3,.slot 4,.slot 83,.slot 84,.slot 85,.key 1,.key 9,.mv 9 [0] 6090] (evC gl (call gl tab d) L24 (S24 f x l q i))=some (S24 f x l (q++hrP (hat l i)) (i+1)):=by
 have hx:=hrs_at hi
 have c:=@zid gl d (by omega) q (hrP (hat l i)) hq0 (by omega) (by simp[hrP]) 2 rfl
 have hcl:=zdb l
 have e4:strsAV (hrP (hat l i))=[.str (hat l i).n,.str (hat l i).v]:=rfl
 have l1:=zab q
 have s1:=zam q
 have l2:=zab (q++hrP (hat l i))
 have s2:=zam (q++hrP (hat l i))
 rw[S24,S24]
 unfold bx gw at *
 rw[e4]at c
 generalize q++hrP (hat l i)=q' at *
 generalize hat l i=y at *
 clear e4
 simp(disch:=(fail_if_success intro _);omega) only[go_sem,simprocAttr,↓Nat.reduceEqDiff,xx,L24,m24,hx,hcl,c,l1,l2,s1,s2]
end Go.Proofs.S44.L
