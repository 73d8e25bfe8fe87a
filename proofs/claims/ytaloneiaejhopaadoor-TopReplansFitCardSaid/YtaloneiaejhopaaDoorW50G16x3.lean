/-
  Plants: demand, a plan is made. No condition.
-/
import Derived.Test.YtaloneiaejhopaaDoorW50v
set_option linter.all false
open List renaming getElem?_eq_getElem->wB,mem_append->wC,getD_eq_getElem?_getD->wD,mem_map->wE,mem_of_getElem?->wF,cons_append->wG
open Nat renaming exists_eq_add_of_le'->wH
namespace Go.Proofs.S50
open Go Go.Ev Go.Proofs Go.Fl
variable {gl :Gl} {n:Nat}
theorem zqu (p:List Sp)(i:Nat):∀l,dem p (l++[i])=dem p l+(spt p i).cp
 | []=>by simp[dem]
 | x::l=>by rw[wG,dem,dem,zqu p i l];omega
theorem z4v (p:List Sp):∀i,dem p (ofK p 1 i)=dm p i
 | 0=>rfl
 | i+1=>by
   rw[ofK,dm]
   split
   . rw[zqu,z4v p i]
   . exact z4v p i
def L20 :MC:=match m20 with| .seq _ (.seq _ (.seq (.seq _ (.block _ (.loop _ b))) _))=>b|_=>.skip
abbrev K20 :List Kp:=[.slot 1,.slot 3,.slot 7,.slot 8,.slot 9,.key 1,.key 7]
def S20 (q:PF)(p:List Sp)(r:List Rd)(j:Nat):St:=⟨[.set 9 (i64 (j:Int)),.set 8 (i64 ((LS p).length:Int)),.set 7 (.sl 7 [] 0 (LS p).length),.set 3 (i64 (dem p ((LS p).take j))),.set 1 (.ptr 1 [])],[(7,.grow .sc (us (LS p))),(1,.fix sPl (plV q p r))]⟩
section
variable {d :Nat} {q:PF} {p:List Sp} {r:List Rd} (hq:PFOk q p r) (hk:PK p r)
include hq hk
theorem qjd :∀j,j<=(LS p).length->0<=dem p ((LS p).take j)/\dem p ((LS p).take j)<=(j:Int)*1073741824
 | 0,_=>by simp[dem]
 | j+1,hj=>by
   have ih:=qjd j (by omega)
   obtain⟨i,hLi⟩:∃i,(LS p)[j]? =some i:=⟨_,wB hj⟩
   have him:=(zdj.1 (wF hLi)).1
   have:=hk.ok.cp i him
   rw[tkS hLi,zqu];omega
theorem qgl {j:Nat}(hj:j<(LS p).length):zaz K20 (evC gl (call gl tab d) L20 (S20 q p r j))=some (S20 q p r (j+1)):=by
 have hp:=hk.ok.pn
 have hr:=hk.ok.rn
 have hL:(LS p).length<=p.length:=zcw p 1 p.length
 have hb:=qjd hq hk j (by omega)
 obtain⟨i,hLi⟩:∃i,(LS p)[j]? =some i:=⟨_,wB hj⟩
 have him:=(zdj.1 (wF hLi)).1
 have hc:=hk.ok.cp i him
 have hs:=zl8 hq hp hr him
 have x1:=zen him
 have x2:=zjs hLi
 have ul:=zao (LS p)
 have e:dem p ((LS p).take (j+1))=dem p ((LS p).take j)+(spt p i).cp:=by rw[tkS hLi,zqu]
 obtain⟨qb,qs,qc,qt⟩:=q
 simp only at hs
 subst hs
 unfold S20
 rw[e]
 generalize dem p ((LS p).take j)=D at *
 generalize us (LS p)=u1 at *
 simp(disch:=apply zq;omega) only[go_sem,simprocAttr,↓Nat.reduceEqDiff,xx,L20,m20,zac,x1,x2,ul]
theorem zm3 (h:2<=n):call gl tab n 20 [plV q p r] []=some (i64 (dm p p.length),[],[]):=by
 obtain⟨d,rfl⟩:=wH h
 have hp:=hk.ok.pn
 have hr:=hk.ok.rn
 have hL:(LS p).length<=p.length:=zcw p 1 p.length
 have hs:=fun i hi=>@qgl gl (d+1) q p r hq hk i hi
 simp only[L20,m20]at hs
 have c1:=@of_at gl (d+1) (by omega) q p r hq hp 1
 have e0:dem p ((LS p).take 0)=0:=rfl
 have e1:dem p (LS p)=dm p p.length:=z4v p p.length
 rw[zai (fd:=fd20) rfl]
 simp(disch:=apply zq;omega) only[go_sem,simprocAttr,↓Nat.reduceEqDiff,xx,fd20,m20,zac,c1]
 rw[zak (S20 q p r) (LS p).length (by unfold LF;omega)]
 . simp(disch:=apply zq;omega) only[go_sem,simprocAttr,↓Nat.reduceEqDiff,xx,S20,e1]
 . simp(disch:=apply zq;omega) only[go_sem,simprocAttr,↓Nat.reduceEqDiff,xx,S20,e0]
   rfl
 . exact hs
 . simp(disch:=apply zq;omega) only[go_sem,simprocAttr,↓Nat.reduceEqDiff,xx,S20]
theorem zie (hl:p.length<=49)(hr:r.length<=1500):GOk (net p r) where
 ok:=qht hk.ok
 n:=by show 2+2*p.length<=100;omega
 a:=by
  show(netA p r).length<=4000
  have:=zd3 p r
  have h1:=zcw p 1 p.length
  have h3:=zcw p 3 p.length
  omega
 c:=fun i hi=>by
  have hm:=zin hi
  have hc:=hk.ok.cp
  have hrc:=hk.ok.rc
  revert hm
  generalize art (net p r).a i=a
  intro hm
  replace hm:a∈netA p r:=hm
  unfold netA at hm
  rw[wC,wC,wC]at hm
  rcases hm with ((hm|hm)|hm)|hm
  . obtain⟨j,hj,rfl⟩:=zxr hm
    exact(hc j hj).2
  . obtain⟨j,hj,rfl⟩:=wE.1 hm
    exact(hc j (zdj.1 hj).1).2
  . obtain⟨j,hj,rfl⟩:=wE.1 hm
    exact(hc j (zdj.1 hj).1).2
  . obtain⟨y,hy,rfl⟩:=wE.1 hm
    obtain⟨j,hj,rfl⟩:=zpu hy
    exact(hrc j hj).2.1
theorem make_at (hl:p.length<=6)(hr:r.length<=20)(h:60<=n):∃fl pr sent cut,SR (net p r) 0 1 (dm p p.length) fl pr sent cut/\call gl tab n 6 [plV q p r] []=some (.tup [fV (net p r) fl pr sent cut,i64 0],[],[]):=by
 obtain⟨d,rfl⟩:=wH h
 have c17:=@zr9 gl (d+59) (by omega) q p r hq hk
 have c19:=@z1w gl (d+59) q p r hq hk (by omega)
 have c20:=@zm3 gl (d+59) q p r hq hk (by omega)
 have hb:=dm_b hk.ok.cp p.length (Nat.le_refl _)
 have hln:=zd3 p r
 have h1:=zcw p 1 p.length
 have h3:=zcw p 3 p.length
 obtain⟨fl,pr,sent,cut,hs,c18⟩:=@qb6 gl (d+59) (net p r) (netA p r).isEmpty (if(netA p r).isEmpty then .sc else yA4) 0 1 (dm p p.length) (zie hq hk (by omega) (by omega))
  (by
    by_cases e:(netA p r)=[]
    . exact .inl e
    . rw[List.isEmpty_eq_false_iff.2 e];exact .inr rfl)
  (fun e=>by
    have e:netA p r=[]:=e
    rw[e]at hln
    have:p.length=0:=by simp at hln;omega
    rw[this];rfl)
  (by show 0<2+2*p.length;omega) (by show 1<2+2*p.length;omega) (by omega) (by omega) (by show(netA p r).length<=2048;omega) (by show 3*(2+2*p.length)+13<=d+59;omega)
 refine⟨fl,pr,sent,cut,hs,?_⟩
 rw[zai (fd:=fd6) rfl]
 have n0:((0:Nat):Int)=0:=rfl
 have n1:((1:Nat):Int)=1:=rfl
 rw[n0,n1]at c18
 obtain⟨b,hb⟩:∃b,lV .sc (us cut)= .lst b .sc (us cut):=by
  unfold lV
  cases h:(us cut).isEmpty with
  | true=>rw[List.isEmpty_iff]at h;exact⟨true,by rw[h];rfl⟩
  | false=>exact⟨false,rfl⟩
 unfold fV at c18 ⊢
 rw[hb]at c18 ⊢
 simp(disch:=apply zq;omega) only[go_sem,simprocAttr,↓Nat.reduceEqDiff,xx,fd6,m6,c17,c19,c20,c18]
end
end Go.Proofs.S50
namespace Go.Proofs.S50
open Go Go.Ev Go.Proofs Go.Fl
variable {gl :Gl} {n:Nat}
abbrev alV (a:Al):AV:=.agg [i64 a.g,i64 a.o,i64 a.n]
def als (l:List Al):List AV:=l.map alV
theorem zaw (l:List Al):(als l).length=l.length:=by simp[als]
theorem zjq {l:List Al}{i:Nat}(h:i<l.length):(als l)[i]? =some (.agg [i64 (alt l i).g,i64 (alt l i).o,i64 (alt l i).n]):=by simp[als,alt,h]
theorem z5m (l:List Al)(a:Al):als (l++[a])=als l++[.agg [i64 a.g,i64 a.o,i64 a.n]]:=by simp[als]
theorem zkm :∀(l:List Al),zdk (als l)=true
 | []=>rfl
 | x::l=>by
   have:=zkm l
   rw[als,List.map_cons,zdk,<-als,this];rfl
theorem z0q (h:1<=n)(x y:Al):call gl tab n 22 [alV y,.cp yA3 (alV x)] []=some (.bool (sm x.g x.o y),[],[]):=by
 obtain⟨d,rfl⟩:=wH h
 have hs:sm x.g x.o y=((x.g==y.g)&&(x.o==y.o)):=by
  unfold sm
  have h1:∀a b:Int,decide (a=b)=(b==a):=fun a b=>by
   by_cases e:a=b
   . subst e;simp
   . rw[decide_eq_false e,beq_eq_false_iff_ne.2 (Ne.symm e)]
  rw[h1,h1]
 rw[hs,zai (fd:=fd22) rfl]
 cases e1:(x.g==y.g)with
 | false=>simp(disch:=apply zq;omega) only[go_sem,simprocAttr,↓Nat.reduceEqDiff,xx,fd22,m22,e1,Bool.false_and]
 | true =>
   cases e2:(x.o==y.o)with
   | false=>simp(disch:=apply zq;omega) only[go_sem,simprocAttr,↓Nat.reduceEqDiff,xx,fd22,m22,e1,e2,Bool.and_false]
   | true=>simp(disch:=apply zq;omega) only[go_sem,simprocAttr,↓Nat.reduceEqDiff,xx,fd22,m22,e1,e2,Bool.and_true]
def L21 :MC:=match m21 with| .seq _ (.seq (.seq _ (.block _ (.loop _ b))) _)=>b|_=>.skip
abbrev K21 :List Kp:=[.slot 0,.slot 1,.slot 7,.slot 8]
def S21 (b:Bool)(sh:Sh)(l:List Al)(x:Al)(i:Nat):St:=⟨[.set 8 (i64 (i:Int)),.set 7 (i64 (l.length:Int)),.set 1 (.fn 22 [.cp yA3 (alV x)]),.set 0 (.lst b sh (als l))],[]⟩
def ixA (l:List Al)(x:Al):Int:=match fnd l x.g x.o with|some i=>(i:Int)|none=>-1
section
variable {d :Nat} {b:Bool} {sh:Sh} {l:List Al} (hsh:l=[]\/sh=yA3) (hl:l.length<=100000) (x:Al)
include hsh hl
theorem z9o {i:Nat}(hi:i<l.length)(hn:sm x.g x.o (alt l i)=false):zaz K21 (evC gl (call gl tab (d+1)) L21 (S21 b sh l x i))=some (S21 b sh l x (i+1)):=by
 have hsh:sh=yA3:=hsh.resolve_left fun e=>by rw[e]at hi;simp at hi
 subst hsh
 have x1:=zjq hi
 have c1:=@z0q gl (d+1) (by omega) x (alt l i)
 rw[hn]at c1
 simp(disch:=apply zq;omega) only[go_sem,simprocAttr,↓Nat.reduceEqDiff,xx,L21,m21,S21,zaw,x1,c1]
theorem qi3 {i:Nat}(hi:i<l.length)(hn:¬sm x.g x.o (alt l i)=false):out1 4 (evC gl (call gl tab (d+1)) L21 (S21 b sh l x i))=some (.ret,i64 (i:Int)):=by
 have hsh:sh=yA3:=hsh.resolve_left fun e=>by rw[e]at hi;simp at hi
 subst hsh
 have x1:=zjq hi
 have c1:=@z0q gl (d+1) (by omega) x (alt l i)
 have hn':sm x.g x.o (alt l i)=true:=by simpa using hn
 rw[hn']at c1
 simp(disch:=apply zq;omega) only[go_sem,simprocAttr,↓Nat.reduceEqDiff,xx,L21,m21,S21,zaw,x1,c1]
theorem z7t (h:2<=n):call gl tab n 21 [.lst b sh (als l),.fn 22 [.cp yA3 (alV x)]] []=some (i64 (ixA l x),[],[]):=by
 obtain⟨d,rfl⟩:=wH h
 rw[zai (fd:=fd21) rfl]
 have ga:∀{j:Nat} (hj:j<l.length),l[j]=alt l j:=fun hj=>by unfold alt;rw[wD,wB hj];rfl
 rcases zew (fun i=>sm x.g x.o (alt l i)=false) l.length with hA|⟨k,hk,hb,he⟩
 . have e:ixA l x=-1:=by
    have:fnd l x.g x.o=none:=by
     unfold fnd
     rw[List.findIdx?_eq_none_iff]
     intro y hy
     obtain⟨j,hj,rfl⟩:=List.getElem_of_mem hy
     rw[ga hj];exact hA j hj
    unfold ixA;rw[this]
   have hs:=fun i (hi:i<l.length)=>z9o (gl:=gl) (d:=d) (b:=b) hsh hl x hi (hA i hi)
   simp only[L21,m21]at hs
   rw[e]
   simp(disch:=apply zq;omega) only[go_sem,simprocAttr,↓Nat.reduceEqDiff,xx,fd21,m21,zaw]
   rw[zak (S21 b sh l x) l.length (by unfold LF;omega)]
   . simp(disch:=apply zq;omega) only[go_sem,simprocAttr,↓Nat.reduceEqDiff,xx,S21]
   . simp(disch:=apply zq;omega) only[go_sem,simprocAttr,↓Nat.reduceEqDiff,xx,S21]
   . exact hs
   . simp(disch:=apply zq;omega) only[go_sem,simprocAttr,↓Nat.reduceEqDiff,xx,S21]
 . have e:ixA l x=k:=by
    have:fnd l x.g x.o=some k:=by
     unfold fnd
     rw[List.findIdx?_eq_some_iff_getElem]
     refine⟨hk,by rw[ga hk];simpa using he,fun j hj=> ?_⟩
     rw[ga (by omega)];simpa using hb j hj
    unfold ixA;rw[this]
   obtain⟨st,hst,hg⟩:=zhs (qi3 (gl:=gl) (d:=d) (b:=b) hsh hl x hk he)
   have hs:=fun i (hi:i<k)=>z9o (gl:=gl) (d:=d) (b:=b) hsh hl x (show i<l.length by omega) (hb i hi)
   simp only[L21,m21]at hs hst
   rw[e]
   simp(disch:=apply zq;omega) only[go_sem,simprocAttr,↓Nat.reduceEqDiff,xx,fd21,m21,zaw]
   rw[zak (S21 b sh l x) k (by unfold LF;omega),hst]
   . simp(disch:=apply zq;omega) only[go_sem,simprocAttr,↓Nat.reduceEqDiff,xx,hg]
   . simp(disch:=apply zq;omega) only[go_sem,simprocAttr,↓Nat.reduceEqDiff,xx,S21]
   . exact hs
   . rw[hst];rfl
end
theorem z49 (b:List Al)(x:Al):∀a,btw b (a++[x])=btw b a++btw b [x]
 | []=>by simp[btw]
 | y::a=>by rw[wG,btw,btw,z49 b x a,List.append_assoc]
theorem zvg (b:List Al):∀a,(btw b a).length<=a.length
 | []=>by simp[btw]
 | y::a=>by
   have:=zvg b a
   rw[btw,List.length_append]
   cases fnd b y.g y.o<;>simp<;>omega
def L8 :MC:=match m8 with| .seq _ (.seq _ (.seq (.seq _ (.block _ (.loop _ b))) _))=>b|_=>.skip
abbrev K8 :List Kp:=[.slot 1,.own 5 5005 yA3,.slot 9,.slot 10,.slot 11]
structure AF where
 f:Bool
 s:Sh
 g:Bool
 t:Sh
def S8 (w:AF)(a b:List Al)(i:Nat):St:=⟨[.set 11 (i64 (i:Int)),.set 10 (i64 (a.length:Int)),.set 9 (.lst w.f w.s (als a)),.set 5 (.sl 5005 [] 0 (btw b (a.take i)).length),.set 1 (.lst w.g w.t (als b))],[(5005,.grow yA3 (als (btw b (a.take i))))]⟩
theorem zvt {a:List Al}{i:Nat}(hi:i<a.length):a.take (i+1)=a.take i++[alt a i]:=by
 have:a[i]? =some (alt a i):=by unfold alt;rw[wD,wB hi];rfl
 rw[List.take_succ,this];rfl
section
variable {d :Nat} {w:AF} {a b:List Al} (ha:a=[]\/w.s=yA3) (hb:b=[]\/w.t=yA3) (hal:a.length<=100000) (hbl:b.length<=100000)
include ha hb hal hbl
theorem qkg {i:Nat}(hi:i<a.length):zaz K8 (evC gl (call gl tab (d+2)) L8 (S8 w a b i))=some (S8 w a b (i+1)):=by
 have hs:w.s=yA3:=ha.resolve_left fun e=>by rw[e]at hi;simp at hi
 have x1:=zjq hi
 have c1:=@z7t gl (d+2) w.g w.t b hb hbl (alt a i) (by omega)
 have e1:btw b (a.take (i+1))=btw b (a.take i)++btw b [alt a i]:=by rw[zvt hi,z49]
 have hlb:=zvg b (a.take i)
 have hlt:(a.take i).length<=a.length:=by rw[List.length_take];omega
 have l1:(btw b (a.take i)).length+1<=LIM:=by unfold LIM;omega
 have al:=zaw (btw b (a.take i))
 have tk:∀(u:List AV) (v:AV),(u++[v]).take (u.length+1)=u++[v]:=fun u v=>List.take_of_length_le (by simp)
 obtain⟨wf,ws,wg,wt⟩:=w
 simp only at hs c1 hb
 subst hs
 unfold S8
 rw[e1]
 cases hf:fnd b (alt a i).g (alt a i).o with
 | none =>
   have e2:btw b [alt a i]=[]:=by simp[btw,hf]
   have e3:ixA b (alt a i)=-1:=by unfold ixA;rw[hf]
   rw[e2,List.append_nil]
   rw[e3]at c1
   generalize btw b (a.take i)=W at *
   simp(disch:=apply zq;omega) only[go_sem,simprocAttr,↓Nat.reduceEqDiff,xx,L8,m8,zaw,x1,c1]
 | some j =>
   have e2:btw b [alt a i]=[⟨(alt a i).g,(alt a i).o,mi (alt a i).n (alt b j).n⟩]:=by simp[btw,hf]
   have e3:ixA b (alt a i)=(j:Int):=by unfold ixA;rw[hf]
   have hj:=(zji hf).1
   have ht:wt=yA3:=hb.resolve_left fun e=>by rw[e]at hj;simp at hj
   subst ht
   have x2:=zjq hj
   have ea:=z5m (btw b (a.take i)) ⟨(alt a i).g,(alt a i).o,mi (alt a i).n (alt b j).n⟩
   have lla:(btw b (a.take i)++[(⟨(alt a i).g,(alt a i).o,mi (alt a i).n (alt b j).n⟩:Al)]).length=(btw b (a.take i)).length+1:=by simp
   have emi:(if(alt b j).n<(alt a i).n then(alt b j).n else(alt a i).n)=mi (alt a i).n (alt b j).n:=rfl
   rw[e2,lla,ea]
   rw[e3]at c1
   generalize als (btw b (a.take i))=ul0 at *
   generalize (btw b (a.take i)).length=m0 at *
   subst al
   simp(disch:=apply zq;omega) only[go_sem,simprocAttr,↓Nat.reduceEqDiff,xx,L8,m8,zaw,x1,x2,c1,l1,tk,zgt,zmg,Option.bind_some,emi]
theorem zo0 (h:3<=n):call gl tab n 8 [.lst w.f w.s (als a),.lst w.g w.t (als b)] []=some (.sl 20000 [] 0 (btw b a).length,[],[.grow yA3 (als (btw b a))]):=by
 obtain⟨d,rfl⟩:=wH h
 have hs:=fun i (hi:i<a.length)=>@qkg gl d w a b ha hb hal hbl i hi
 simp only[L8,m8]at hs
 have al:=zaw (btw b a)
 have e1:S8 w a b a.length=⟨[.set 11 (i64 (a.length:Int)),.set 10 (i64 (a.length:Int)),.set 9 (.lst w.f w.s (als a)),.set 5 (.sl 5005 [] 0 (btw b a).length),.set 1 (.lst w.g w.t (als b))],[(5005,.grow yA3 (als (btw b a)))]⟩:=by unfold S8;rw[List.take_length]
 rw[zai (fd:=fd8) rfl]
 simp(disch:=apply zq;omega) only[go_sem,simprocAttr,↓Nat.reduceEqDiff,xx,fd8,m8,zaw]
 rw[zak (S8 w a b) a.length (by unfold LF;omega)]
 . simp(disch:=apply zq;omega) only[go_sem,simprocAttr,↓Nat.reduceEqDiff,xx,e1,al]
 . simp(disch:=apply zq;omega) only[go_sem,simprocAttr,↓Nat.reduceEqDiff,xx,S8,List.take_zero,btw,List.length_nil,als,List.map_nil]
 . exact hs
 . simp(disch:=apply zq;omega) only[go_sem,simprocAttr,↓Nat.reduceEqDiff,xx,e1]
end
end Go.Proofs.S50
