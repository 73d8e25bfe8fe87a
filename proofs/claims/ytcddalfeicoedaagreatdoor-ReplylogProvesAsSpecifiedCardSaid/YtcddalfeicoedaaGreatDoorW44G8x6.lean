/-
  Chapter 44: texts that are added. No condition.
-/
import Derived.Test.YtcddalfeicoedaaGreatDoorW44G7x6
set_option linter.all false
open Nat renaming exists_eq_add_of_le'->wA,le_refl->wB
open List renaming take_of_length_le->wC,length_append->wD,take_succ_eq_append_getElem->wE,flatten_append->wF,append_assoc->wG,getElem_mem->wH,map_append->wI,append_nil->wJ
namespace Go.Proofs.S44.L
open Go Go.Ev Go.Proofs Go.Proofs.S44
open Go.Proofs.S44.H (strsAV zaa zal Sml GlK GlR zaj zbq nsI zam zint zay encB za0 zaf)
variable {gl :Gl} {n:Nat}
theorem st1 (a:List UInt8):strsAV [a]=[.str a]:=rfl
abbrev bx (q:Nat)(xs:List (List UInt8)):OB:=.fix (.st [.sc]) (.aggR [.sl q [] 0 xs.length])
abbrev b0 :OB:=.fix (.st [.sc]) (.agg [.lst true .sc []])
abbrev gw (xs:List (List UInt8)):OB:=.grow .sc (strsAV xs)
theorem zan (l:List (List UInt8)):(strsAV l).all (fun x=>x.scalar)=true:=by simp[strsAV,AV.scalar]
theorem zyw (h:1<=n)(f:Bool){xs ys:List (List UInt8)}(h0:xs.length≠0)(hx:xs.length<=1000)(hy:ys.length<=1000) :
  call gl tab n 72 [.ptr 100000 [],.lst f .sc (strsAV ys)] [(100000,bx 100001 xs),(100001,gw xs)]=some (.tup [],[(100000,bx 20000 (xs++ys)),(100001,.dead)],[gw (xs++ys)]):=by
 obtain⟨d,rfl⟩:=wA h
 have lx:=zaa xs
 have ly:=zaa ys
 have hL:xs.length+ys.length<=LIM:=by unfold LIM;omega
 rw[zau (fd:=fd72) rfl]
 unfold bx gw
 rw[zez,wD]
 simp(disch:=apply zq;omega) only[go_sem,simprocAttr,↓Nat.reduceEqDiff,xx,fd72,m72,lx,ly,hL]
theorem zib (h:1<=n){xs ys:List (List UInt8)}(h0:xs.length≠0)(hx:xs.length<=1000)(hy:ys.length<=1000){k:Nat}(hk:ys.length=k) :
  call gl tab n 72 [.ptr 100000 [],.sl 100002 [] 0 k] [(100000,bx 100001 xs),(100001,gw xs),(100002,gw ys)]=some (.tup [],[(100000,bx 20000 (xs++ys)),(100001,.dead),(100002,gw ys)],[gw (xs++ys)]):=by
 subst hk
 obtain⟨d,rfl⟩:=wA h
 have lx:=zaa xs
 have ly:=zaa ys
 have hL:xs.length+ys.length<=LIM:=by unfold LIM;omega
 have ty:List.take ys.length (strsAV ys)=strsAV ys:=wC (by omega)
 rw[zau (fd:=fd72) rfl]
 unfold bx gw
 rw[zez,wD]
 simp(disch:=apply zq;omega) only[go_sem,simprocAttr,↓Nat.reduceEqDiff,xx,fd72,m72,lx,ly,hL,ty]
theorem qmc (h:1<=n){ys:List (List UInt8)}(h0:ys.length≠0)(hy:ys.length<=1000){k:Nat}(hk:ys.length=k) :
  call gl tab n 72 [.ptr 100000 [],.sl 100001 [] 0 k] [(100000,b0),(100001,gw ys)]=some (.tup [],[(100000,bx 20000 ys),(100001,gw ys)],[gw ys]):=by
 subst hk
 obtain⟨d,rfl⟩:=wA h
 have ly:=zaa ys
 have hL:0+ys.length<=LIM:=by unfold LIM;omega
 have hL0:ys.length<=LIM:=by unfold LIM;omega
 have ty:List.take ys.length (strsAV ys)=strsAV ys:=wC (by omega)
 rw[zau (fd:=fd72) rfl]
 unfold bx gw
 simp(disch:=apply zq;omega) only[go_sem,simprocAttr,↓Nat.reduceEqDiff,xx,fd72,m72,ly,hL,hL0,ty]
abbrev gi (l:List Int):OB:=.grow .sc (nsI l)
theorem qfh (h:5<=n)(f:Bool){xs:List (List UInt8)}{l:List Int}(h0:xs.length≠0)(hx:xs.length<=1000)(hl:zbq l) :
  call gl tab n 73 [.ptr 100000 [],.lst f .sc (nsI l)] [(100000,bx 100001 xs),(100001,gw xs)]=some (.tup [],[(100000,bx 20000 (xs++[zaj l])),(100001,.dead)],[gw (xs++[zaj l])]):=by
 obtain⟨d,rfl⟩:=wA h
 have c:=@H.ints_ok gl (d+4) (by omega) f l hl
 have c2:=@zib gl (d+4) (by omega) xs [zaj l] h0 hx (by simp) 1 rfl
 have t:List.take (zaj l).length (zac (zaj l))=zac (zaj l):=wC (by rw[zab];exact wB _)
 have lx:=zaa xs
 have la:=zaa (xs++[zaj l])
 have sx:=zan xs
 have sa:=zan (xs++[zaj l])
 rw[zau (fd:=fd73) rfl]
 unfold bx gw at *
 simp only[st1]at c2
 generalize zaj l=z at *
 generalize strsAV (xs++[z])=sz at *
 simp(disch:=apply zq;omega) only[go_sem,simprocAttr,↓Nat.reduceEqDiff,xx,fd73,m73,H.noImms_bytesAV,c,c2,zab,t,lx,la,sx,sa]
theorem zmm (h:5<=n){xs:List (List UInt8)}{l:List Int}(h0:xs.length≠0)(hx:xs.length<=1000)(hl:zbq l){k:Nat}(hk:l.length=k) :
  call gl tab n 73 [.ptr 100000 [],.sl 100002 [] 0 k] [(100000,bx 100001 xs),(100001,gw xs),(100002,gi l)]=some (.tup [],[(100000,bx 20000 (xs++[zaj l])),(100001,.dead),(100002,gi l)],[gw (xs++[zaj l])]):=by
 subst hk
 obtain⟨d,rfl⟩:=wA h
 have c:=@H.ints_ok gl (d+4) (by omega) false l hl
 have c2:=@zib gl (d+4) (by omega) xs [zaj l] h0 hx (by simp) 1 rfl
 have t:List.take (zaj l).length (zac (zaj l))=zac (zaj l):=wC (by rw[zab];exact wB _)
 have ln:=zam l
 have tn:List.take l.length (nsI l)=nsI l:=wC (by omega)
 have lx:=zaa xs
 have la:=zaa (xs++[zaj l])
 have sx:=zan xs
 have sa:=zan (xs++[zaj l])
 rw[zau (fd:=fd73) rfl]
 unfold bx gw at *
 simp only[st1]at c2
 generalize zaj l=z at *
 generalize strsAV (xs++[z])=sz at *
 simp(disch:=apply zq;omega) only[go_sem,simprocAttr,↓Nat.reduceEqDiff,xx,fd73,m73,H.noImms_bytesAV,c,c2,zab,t,lx,la,sx,sa,ln,tn]
theorem z8n (h:5<=n){l:List Int}(hl:zbq l){k:Nat}(hk:l.length=k) :
  call gl tab n 73 [.ptr 100000 [],.sl 100001 [] 0 k] [(100000,b0),(100001,gi l)]=some (.tup [],[(100000,bx 20000 [zaj l]),(100001,gi l)],[gw [zaj l]]):=by
 subst hk
 obtain⟨d,rfl⟩:=wA h
 have c:=@H.ints_ok gl (d+4) (by omega) false l hl
 have c2:=@qmc gl (d+4) (by omega) [zaj l] (by simp) (by simp) 1 rfl
 have t:List.take (zaj l).length (zac (zaj l))=zac (zaj l):=wC (by rw[zab];exact wB _)
 have ln:=zam l
 have tn:List.take l.length (nsI l)=nsI l:=wC (by omega)
 rw[zau (fd:=fd73) rfl]
 unfold bx gw at *
 simp only[st1,List.length_singleton]at c2 ⊢
 generalize zaj l=z at *
 simp(disch:=apply zq;omega) only[go_sem,simprocAttr,↓Nat.reduceEqDiff,xx,fd73,m73,H.noImms_bytesAV,c,c2,zab,t,ln,tn]
end Go.Proofs.S44.L
namespace Go.Proofs.S44.L
open Go Go.Ev Go.Proofs Go.Proofs.S44
open Go.Proofs.S44.H (strsAV zaa zal Sml GlK GlR zaj zbq nsI zam zint zay encB za0 zaf)
variable {gl :Gl} {n:Nat}
structure Cd where
 fr:Int
 to:Int
 pat:List UInt8
 cl:List (List UInt8)
 co:List (List UInt8)
 si:List Int
 us:Int
abbrev sCd :Sh:=.st [.sc,.sc,.sc,.sc,.sc,.sc,.sc]
abbrev z7s (f:Bool)(x:Cd):AV:=.agg [i64 x.fr,i64 x.to,.str x.pat,.lst f .sc (strsAV x.cl),.lst f .sc (strsAV x.co),.lst f .sc (nsI x.si),i64 x.us]
abbrev cdAV (x:Cd):AV:=z7s false x
structure CdOk (x:Cd):Prop where
 i:zbq [x.fr,x.to,x.us]
 cl:Sml x.cl
 co:Sml x.co
 si:zbq x.si
def cdP (x:Cd):List (List UInt8):=[zaj [x.fr,x.to,x.us],x.pat,zbd x.cl,zbd x.co,zaj x.si]
theorem ztv (h:7<=n)(f:Bool){xs:List (List UInt8)}{x:Cd}(hx:CdOk x)(h0:xs.length≠0)(hl:xs.length<=900) :
  call gl tab n 123 [.ptr 100000 [],z7s f x] [(100000,bx 100001 xs),(100001,gw xs)]=some (.tup [],[(100000,bx 20000 (xs++cdP x)),(100001,.dead)],[gw (xs++cdP x)]):=by
 obtain⟨d,rfl⟩:=wA h
 have c1:=@zmm gl (d+6) (by omega) xs _ h0 (by omega) hx.i 3 rfl
 have c2:=@zfi gl (d+6) (by omega) f x.cl hx.cl
 have c3:=@zfi gl (d+6) (by omega) f x.co hx.co
 have c4:=@zib gl (d+6) (by omega) (xs++[zaj [x.fr,x.to,x.us]]) [x.pat,zbd x.cl,zbd x.co] (by simp) (by simp;omega) (by simp) 3 rfl
 have c5:=@qfh gl (d+6) (by omega) f (xs++[zaj [x.fr,x.to,x.us]]++[x.pat,zbd x.cl,zbd x.co]) _ (by simp) (by simp;omega) hx.si
 have e:xs++cdP x=xs++[zaj [x.fr,x.to,x.us]]++[x.pat,zbd x.cl,zbd x.co]++[zaj x.si]:=by simp[cdP]
 rw[e]
 have t1:List.take (zbd x.cl).length (zac (zbd x.cl))=zac (zbd x.cl):=wC (by rw[zab];exact wB _)
 have t2:List.take (zbd x.co).length (zac (zbd x.co))=zac (zbd x.co):=wC (by rw[zab];exact wB _)
 rw[zau (fd:=z6r) rfl]
 have lx:=zaa xs
 have sx:=zan xs
 generalize zaj [x.fr,x.to,x.us]=z1 at *
 generalize zbd x.cl=z2 at *
 generalize zbd x.co=z3 at *
 generalize zaj x.si=z4 at *
 have l1:=zaa (xs++[z1])
 have s1:=zan (xs++[z1])
 have l2:=zaa (xs++[z1]++[x.pat,z2,z3])
 have s2:=zan (xs++[z1]++[x.pat,z2,z3])
 have l3:=zaa (xs++[z1]++[x.pat,z2,z3]++[z4])
 have s3:=zan (xs++[z1]++[x.pat,z2,z3]++[z4])
 have e4:strsAV [x.pat,z2,z3]=[.str x.pat,.str z2,.str z3]:=rfl
 have e5:nsI [x.fr,x.to,x.us]=[i64 x.fr,i64 x.to,i64 x.us]:=rfl
 unfold bx gw gi at *
 rw[e4]at c4
 rw[e5]at c1
 generalize xs++[z1]=q1 at *
 generalize q1++[x.pat,z2,z3]=q2 at *
 generalize q2++[z4]=q3 at *
 simp(maxSteps:=1000000) (disch:=apply zq;omega) only[go_sem,simprocAttr,↓Nat.reduceEqDiff,xx,z6r,m123,H.noImms_bytesAV,c1,c2,c3,c4,c5,zab,t1,t2,lx,l1,l2,l3,sx,s1,s2,s3]
end Go.Proofs.S44.L
namespace Go.Proofs.S44.L
open Go Go.Ev Go.Proofs Go.Proofs.S44
open Go.Proofs.S44.H (strsAV zaa zal Sml GlK GlR zaj zbq nsI zam zint zay encB za0 zaf)
variable {gl :Gl} {n:Nat}
structure Tk where
 cu:Int
 se:Int
 id:List UInt8
 cs:List Cd
 sgn:List UInt8
def cds (l:List Cd):List AV:=l.map cdAV
theorem zc1 (l:List Cd):(cds l).length=l.length:=by simp[cds]
def zCd :Cd:=⟨0,0,[],[],[],[],0⟩
def cat (l:List Cd)(i:Nat):Cd:=l.getD i zCd
theorem zv4 {l:List Cd}{i:Nat}(h:i<l.length):(cds l)[i]? =some (cdAV (cat l i)):=by simp[cds,cat,h]
theorem zt0 {l:List Cd}{i:Nat}(h:i<l.length):cat l i∈l:=by
 rw[show cat l i=l[i] by simp[cat,h]];exact wH h
abbrev tkAV (x:Tk):AV:=.agg [i64 x.cu,i64 x.se,.str x.id,.lst false sCd (cds x.cs),bAV x.sgn]
structure TkOk (x:Tk):Prop where
 i:zbq [x.cu,x.se]
 cl:x.cs.length<=8
 c:∀y∈x.cs,CdOk y
 s:x.sgn.length=16
def csP (l:List Cd)(i:Nat):List (List UInt8):=((l.take i).map cdP).flatten
theorem z7k (l:List Cd):csP l 0=[]:=by simp[csP]
theorem qcm {l:List Cd}{i:Nat}(h:i<l.length):csP l (i+1)=csP l i++cdP (cat l i):=by
 rw[csP,wE h,wI,wF,show cat l i=l[i] by simp[cat,h]];simp[csP]
theorem zmy {l:List Cd}:∀{i:Nat},i<=l.length->(csP l i).length=5*i
 | 0,_=>by rw[z7k];rfl
 | i+1,h=>by
   rw[qcm (by omega),wD,zmy (by omega)]
   show 5*i+5=5*(i+1);omega
def tkP (x:Tk):List (List UInt8):=[zaj [x.cu,x.se],x.id,x.sgn]++csP x.cs x.cs.length
def L74 :MC:=match m74 with| .seq _ (.seq _ (.seq _ (.seq _ (.block _ (.loop _ b)))))=>b|_=>.skip
def S74 (f:Bool)(x:List Cd)(q:List (List UInt8))(i:Nat):St:=⟨[.set 24 (i64 i),.set 23 (i64 x.length),.set 22 (.lst f sCd (cds x)),.set 0 (.ptr 100000 [])],[(100001,.dead),(100000,bx 8000 q),(8000,gw q)]⟩
theorem qd6 {d:Nat}(hd:7<=d)(f:Bool){l:List Cd}(hl:l.length<=100)(hc:∀y∈l,CdOk y){q:List (List UInt8)}(hq0:q.length≠0)(hq:q.length<=900)(i:Nat)(hi:i<l.length) :
  zbe [.slot 0,.slot 22,.slot 23,.slot 24,.mv 100000 [0] 8000] (evC gl (call gl tab d) L74 (S74 f l q i))=some (S74 f l (q++cdP (cat l i)) (i+1)):=by
 have hx:=zv4 hi
 have c:=@ztv gl d hd false q _ (hc _ (zt0 hi)) hq0 hq
 have hcl:=zc1 l
 have l1:=zaa q
 have s1:=zan q
 have l2:=zaa (q++cdP (cat l i))
 have s2:=zan (q++cdP (cat l i))
 rw[S74,S74]
 unfold bx gw at *
 generalize q++cdP (cat l i)=q' at *
 generalize cat l i=y at *
 simp(disch:=apply zq;omega) only[go_sem,simprocAttr,↓Nat.reduceEqDiff,xx,L74,m74,hx,hcl,c,l1,l2,s1,s2]
theorem z3s (h:8<=n){xs:List (List UInt8)}{x:Tk}(hx:TkOk x)(h0:xs.length≠0)(hl:xs.length<=500) :
  call gl tab n 74 [.ptr 100000 [],tkAV x] [(100000,bx 100001 xs),(100001,gw xs)]=some (.tup [],[(100000,bx 20000 (xs++tkP x)),(100001,.dead)],[gw (xs++tkP x)]):=by
 obtain⟨d,rfl⟩:=wA h
 have c1:=@zmm gl (d+7) (by omega) xs _ h0 (by omega) hx.i 2 rfl
 have c4:=@zib gl (d+7) (by omega) (xs++[zaj [x.cu,x.se]]) [x.id,x.sgn] (by simp) (by simp;omega) (by simp) 2 rfl
 have b1:=b16 hx.s
 have t1:=b16t hx.s
 have bq:=H.bytes_all x.sgn
 have hcl:=zc1 x.cs
 have cl8:=hx.cl
 rw[zau (fd:=fd74) rfl]
 have lx:=zaa xs
 have sx:=zan xs
 have e:xs++tkP x=xs++[zaj [x.cu,x.se]]++[x.id,x.sgn]++csP x.cs x.cs.length:=by simp[tkP]
 rw[e]
 have hle:(xs++[zaj [x.cu,x.se]]++[x.id,x.sgn]).length<=510:=by simp;omega
 have hl0:(xs++[zaj [x.cu,x.se]]++[x.id,x.sgn]).length≠0:=by simp
 generalize zaj [x.cu,x.se]=z1 at *
 have e4:strsAV [x.id,x.sgn]=[.str x.id,.str x.sgn]:=rfl
 have e5:nsI [x.cu,x.se]=[i64 x.cu,i64 x.se]:=rfl
 unfold bx gw gi at *
 rw[e4]at c4
 rw[e5]at c1
 generalize xs++[z1]=q1 at *
 generalize q1++[x.id,x.sgn]=q2 at *
 have l1:=zaa q1
 have s1:=zan q1
 have l2:=zaa q2
 have s2:=zan q2
 obtain⟨Q,hQ⟩:∃Q:Nat->List (List UInt8),∀i,Q i=q2++csP x.cs i:=⟨_,fun _=>rfl⟩
 have st:∀i,i<x.cs.length->zbe [.slot 0,.slot 22,.slot 23,.slot 24,.mv 100000 [0] 8000] (evC gl (call gl tab (d+7)) L74 (S74 false x.cs (Q i) i))=some (S74 false x.cs (Q (i+1)) (i+1)):=fun i hi=>by
  have hc:=zmy (l:=x.cs) (i:=i) (by omega)
  rw[hQ (i+1),qcm hi,<-wG,<-hQ i]
  exact qd6 (by omega) false (by omega) hx.c (by rw[hQ,wD];omega) (by rw[hQ,wD];omega) i hi
 simp only[L74,m74]at st
 have Q0:Q 0=q2:=by rw[hQ,z7k,wJ]
 rw[<-hQ]
 have l3:=zaa (Q x.cs.length)
 have s3:=zan (Q x.cs.length)
 clear hQ
 simp(maxSteps:=1000000) (disch:=apply zq;omega) only[go_sem,simprocAttr,↓Nat.reduceEqDiff,xx,fd74,m74,c1,c4,b1,t1,bq,hcl,lx,l1,l2,sx,s1,s2]
 rw[zai (fun i=>S74 false x.cs (Q i) i) x.cs.length (by unfold LF;omega)]
 . rw[S74];simp(disch:=apply zq;omega) only[go_sem,simprocAttr,↓Nat.reduceEqDiff,xx,hcl,l3,s3]
 . rw[S74,Q0];simp(disch:=apply zq;omega) only[go_sem,simprocAttr,↓Nat.reduceEqDiff,xx,lx,l1,l2,hcl]
 . exact st
 . rw[S74];simp(disch:=apply zq;omega) only[go_sem,simprocAttr,↓Nat.reduceEqDiff,xx,hcl,l3,s3]
abbrev qdv (x:Tk):AV:=.agg [i64 x.cu,i64 x.se,.str x.id,.lst true .sc [],bAV x.sgn]
theorem zy5 (h:8<=n){xs:List (List UInt8)}{x:Tk}(hx:TkOk x)(hc:x.cs=[])(h0:xs.length≠0)(hl:xs.length<=500) :
  call gl tab n 74 [.ptr 100000 [],qdv x] [(100000,bx 100001 xs),(100001,gw xs)]=some (.tup [],[(100000,bx 20000 (xs++tkP x)),(100001,.dead)],[gw (xs++tkP x)]):=by
 obtain⟨d,rfl⟩:=wA h
 have c1:=@zmm gl (d+7) (by omega) xs _ h0 (by omega) hx.i 2 rfl
 have c4:=@zib gl (d+7) (by omega) (xs++[zaj [x.cu,x.se]]) [x.id,x.sgn] (by simp) (by simp;omega) (by simp) 2 rfl
 have b1:=b16 hx.s
 have t1:=b16t hx.s
 have bq:=H.bytes_all x.sgn
 rw[zau (fd:=fd74) rfl]
 have lx:=zaa xs
 have sx:=zan xs
 have e:xs++tkP x=xs++[zaj [x.cu,x.se]]++[x.id,x.sgn]:=by simp[tkP,hc,csP]
 rw[e]
 generalize zaj [x.cu,x.se]=z1 at *
 have e4:strsAV [x.id,x.sgn]=[.str x.id,.str x.sgn]:=rfl
 have e5:nsI [x.cu,x.se]=[i64 x.cu,i64 x.se]:=rfl
 unfold bx gw gi at *
 rw[e4]at c4
 rw[e5]at c1
 generalize xs++[z1]=q1 at *
 generalize q1++[x.id,x.sgn]=q2 at *
 have l1:=zaa q1
 have s1:=zan q1
 have l2:=zaa q2
 have s2:=zan q2
 simp(maxSteps:=1000000) (disch:=apply zq;omega) only[go_sem,simprocAttr,↓Nat.reduceEqDiff,xx,fd74,m74,c1,c4,b1,t1,bq,lx,l1,l2,sx,s1,s2]
 rw[zai (fun i=>(⟨[.set 24 (i64 i),.set 23 (i64 0),.set 22 (.lst true .sc []),.set 0 (.ptr 100000 [])],[(100001,.dead),(100000,bx 8000 q2),(8000,gw q2)]⟩:St)) 0 (by unfold LF;omega)]
 . simp(disch:=apply zq;omega) only[go_sem,simprocAttr,↓Nat.reduceEqDiff,xx,l2,s2]
 . simp(disch:=apply zq;omega) only[go_sem,simprocAttr,↓Nat.reduceEqDiff,xx,lx,l1,l2]
 . intro i hi;omega
 . simp(disch:=apply zq;omega) only[go_sem,simprocAttr,↓Nat.reduceEqDiff,xx,l2,s2]
end Go.Proofs.S44.L
namespace Go.Proofs.S44.L
open Go Go.Ev Go.Proofs Go.Proofs.S44
open Go.Proofs.S44.H (strsAV zaa zal Sml GlK GlR zaj zbq nsI zam zint zay encB za0 zaf)
variable {gl :Gl} {n:Nat}
structure Vy where
 h:List UInt8
 v:List (List UInt8)
 d:List UInt8
abbrev sVy :Sh:=.st [.sc,.sc,.sc]
abbrev vyAV (x:Vy):AV:=.agg [.str x.h,.lst false .sc (strsAV x.v),.str x.d]
def vys (l:List Vy):List AV:=l.map vyAV
theorem zcz (l:List Vy):(vys l).length=l.length:=by simp[vys]
def vat (l:List Vy)(i:Nat):Vy:=l.getD i ⟨[],[],[]⟩
theorem zub {l:List Vy}{i:Nat}(h:i<l.length):(vys l)[i]? =some (vyAV (vat l i)):=by simp[vys,vat,h]
theorem zld {l:List Vy}{i:Nat}(h:i<l.length):vat l i∈l:=by
 rw[show vat l i=l[i] by simp[vat,h]];exact wH h
def vyP (x:Vy):List (List UInt8):=[x.h,x.d,zbd x.v]
def vsP (l:List Vy)(i:Nat):List (List UInt8):=((l.take i).map vyP).flatten
theorem z3p (l:List Vy):vsP l 0=[]:=by simp[vsP]
theorem z87 {l:List Vy}{i:Nat}(h:i<l.length):vsP l (i+1)=vsP l i++vyP (vat l i):=by
 rw[vsP,wE h,wI,wF,show vat l i=l[i] by simp[vat,h]];simp[vsP]
theorem zi8 {l:List Vy}:∀{i:Nat},i<=l.length->(vsP l i).length=3*i
 | 0,_=>by rw[z3p];rfl
 | i+1,h=>by
   rw[z87 (by omega),wD,zi8 (by omega)]
   show 3*i+3=3*(i+1);omega
structure Rl where
 nm:List UInt8
 pat:List UInt8
 tg:List (List UInt8)
 fr:Int
 sl:Int
 dn:Int
 ng:Int
 vy:List Vy
 al:Cd
 sg:Bool
 co:Int
 pr:List UInt8
abbrev sRl :Sh:=.st [.sc,.sc,.sc,.sc,.sc,.sc,.sc,.sc,sCd,.sc,.sc,.sc]
abbrev rlAV (x:Rl):AV:=.agg [.str x.nm,.str x.pat,.lst false .sc (strsAV x.tg),i64 x.fr,i64 x.sl,i64 x.dn,i64 x.ng,.lst false sVy (vys x.vy),cdAV x.al,.bool x.sg,i64 x.co,.str x.pr]
def fl (b:Bool):Int:=if b then 1 else 0
structure RlOk (x:Rl):Prop where
 i:zbq [x.fr,x.sl,x.dn,x.ng,fl x.sg,x.co]
 t:x.tg.length<=20
 v:x.vy.length<=8
 vv:∀y∈x.vy,Sml y.v
 a:CdOk x.al
def rlP (x:Rl):List (List UInt8):=[x.nm,x.pat,x.pr]++[zaj [x.fr,x.sl,x.dn,x.ng,fl x.sg,x.co]]++x.tg++vsP x.vy x.vy.length++cdP x.al
theorem z14 (h:1<=n)(b:Bool):call gl tab n 124 [.bool b] []=some (i64 (fl b),[],[]):=by
 obtain⟨d,rfl⟩:=wA h
 rw[zad (fd:=z2c) rfl]
 cases b
 . simp(disch:=apply zq;omega) only[go_sem,simprocAttr,↓Nat.reduceEqDiff,xx,z2c,m124];rfl
 . simp(disch:=apply zq;omega) only[go_sem,simprocAttr,↓Nat.reduceEqDiff,xx,z2c,m124];rfl
def L75 :MC:=match m75 with| .seq _ (.seq _ (.seq _ (.seq _ (.seq (.seq _ (.block _ (.loop _ b))) _))))=>b|_=>.skip
def S75 (f:Bool)(x:Rl)(l:List Vy)(q:List (List UInt8))(i:Nat):St:=⟨[.set 38 (i64 i),.set 37 (i64 l.length),.set 36 (.lst f sVy (vys l)),.set 3 (.ptr 3 []),.set 0 (.ptr 100000 [])],[(100001,.dead),(100000,bx 8000 q),(8000,gw q),(3,.fix sRl (rlAV x))]⟩
theorem qd5 {d:Nat}(hd:7<=d)(f:Bool)(x:Rl){l:List Vy}(hl:l.length<=100)(hc:∀y∈l,Sml y.v){q:List (List UInt8)}(hq0:q.length≠0)(hq:q.length<=900)(i:Nat)(hi:i<l.length) :
  zbe [.slot 0,.slot 3,.slot 36,.slot 37,.slot 38,.key 3,.mv 100000 [0] 8000] (evC gl (call gl tab d) L75 (S75 f x l q i))=some (S75 f x l (q++vyP (vat l i)) (i+1)):=by
 have hx:=zub hi
 have c0:=@zfi gl d (by omega) false _ (hc _ (zld hi))
 have c:=@zib gl d (by omega) q (vyP (vat l i)) hq0 (by omega) (by simp[vyP]) 3 rfl
 have hcl:=zcz l
 have t:List.take (zbd (vat l i).v).length (zac (zbd (vat l i).v))=zac (zbd (vat l i).v):=wC (by rw[zab];exact wB _)
 have e4:strsAV (vyP (vat l i))=[.str (vat l i).h,.str (vat l i).d,.str (zbd (vat l i).v)]:=rfl
 have l1:=zaa q
 have s1:=zan q
 have l2:=zaa (q++vyP (vat l i))
 have s2:=zan (q++vyP (vat l i))
 rw[S75,S75]
 unfold bx gw at *
 rw[e4]at c
 generalize q++vyP (vat l i)=q' at *
 generalize zbd (vat l i).v=z at *
 generalize vat l i=y at *
 clear e4
 simp(disch:=apply zq;omega) only[go_sem,simprocAttr,↓Nat.reduceEqDiff,xx,L75,m75,hx,hcl,c0,c,H.noImms_bytesAV,zab,t,l1,l2,s1,s2]
theorem z97 (h:8<=n){xs:List (List UInt8)}{x:Rl}(hx:RlOk x)(h0:xs.length≠0)(hl:xs.length<=500) :
  call gl tab n 75 [.ptr 100000 [],rlAV x] [(100000,bx 100001 xs),(100001,gw xs)]=some (.tup [],[(100000,bx 20000 (xs++rlP x)),(100001,.dead)],[gw (xs++rlP x)]):=by
 obtain⟨d,rfl⟩:=wA h
 have e:xs++rlP x=xs++[x.nm,x.pat,x.pr]++[zaj [x.fr,x.sl,x.dn,x.ng,fl x.sg,x.co]]++x.tg++vsP x.vy x.vy.length++cdP x.al:=by simp[rlP]
 rw[e]
 have tg:=hx.t
 have vy:=hx.v
 have c0:=@z14 gl (d+7) (by omega) x.sg
 have c1:=@zib gl (d+7) (by omega) xs [x.nm,x.pat,x.pr] h0 (by omega) (by simp) 3 rfl
 have c2:=@zmm gl (d+7) (by omega) (xs++[x.nm,x.pat,x.pr]) _ (by simp) (by simp;omega) hx.i 6 rfl
 have c3:=@zyw gl (d+7) (by omega) false (xs++[x.nm,x.pat,x.pr]++[zaj [x.fr,x.sl,x.dn,x.ng,fl x.sg,x.co]]) x.tg (by simp) (by simp;omega) (by omega)
 have hv:=zi8 (l:=x.vy) (wB _)
 have c5:=@ztv gl (d+7) (by omega) false (xs++[x.nm,x.pat,x.pr]++[zaj [x.fr,x.sl,x.dn,x.ng,fl x.sg,x.co]]++x.tg++vsP x.vy x.vy.length) x.al hx.a (by simp) (by simp;omega)
 have hle:(xs++[x.nm,x.pat,x.pr]++[zaj [x.fr,x.sl,x.dn,x.ng,fl x.sg,x.co]]++x.tg).length<=600:=by simp;omega
 have hl0:(xs++[x.nm,x.pat,x.pr]++[zaj [x.fr,x.sl,x.dn,x.ng,fl x.sg,x.co]]++x.tg).length≠0:=by simp
 have lx:=zaa xs
 have sx:=zan xs
 have e4:strsAV [x.nm,x.pat,x.pr]=[.str x.nm,.str x.pat,.str x.pr]:=rfl
 have e5:nsI [x.fr,x.sl,x.dn,x.ng,fl x.sg,x.co]=[i64 x.fr,i64 x.sl,i64 x.dn,i64 x.ng,i64 (fl x.sg),i64 x.co]:=rfl
 rw[zau (fd:=fd75) rfl]
 unfold bx gw gi at *
 rw[e4]at c1
 rw[e5]at c2
 generalize zaj [x.fr,x.sl,x.dn,x.ng,fl x.sg,x.co]=z1 at *
 generalize xs++[x.nm,x.pat,x.pr]=q1 at *
 generalize q1++[z1]=q2 at *
 generalize q2++x.tg=q3 at *
 have l1:=zaa q1
 have s1:=zan q1
 have l2:=zaa q2
 have s2:=zan q2
 have l3:=zaa q3
 have s3:=zan q3
 have hcl:=zcz x.vy
 have htl:=zaa x.tg
 obtain⟨Q,hQ⟩:∃Q:Nat->List (List UInt8),∀i,Q i=q3++vsP x.vy i:=⟨_,fun _=>rfl⟩
 have st:∀i,i<x.vy.length->zbe [.slot 0,.slot 3,.slot 36,.slot 37,.slot 38,.key 3,.mv 100000 [0] 8000] (evC gl (call gl tab (d+7)) L75 (S75 false x x.vy (Q i) i))=some (S75 false x x.vy (Q (i+1)) (i+1)):=fun i hi=>by
  have hc:=zi8 (l:=x.vy) (i:=i) (by omega)
  rw[hQ (i+1),z87 hi,<-wG,<-hQ i]
  exact qd5 (by omega) false _ (by omega) hx.vv (by rw[hQ,wD];omega) (by rw[hQ,wD];omega) i hi
 simp only[L75,m75]at st
 have Q0:Q 0=q3:=by rw[hQ,z3p,wJ]
 rw[<-hQ]at c5 ⊢
 have l4:=zaa (Q x.vy.length)
 have s4:=zan (Q x.vy.length)
 generalize hq4:Q x.vy.length++cdP x.al=q4 at *
 have l5:=zaa q4
 have s5:=zan q4
 clear hQ hq4
 simp(maxSteps:=1000000) (disch:=apply zq;omega) only[go_sem,simprocAttr,↓Nat.reduceEqDiff,xx,fd75,m75,c0,c1,c2,c3,hcl,htl,lx,l1,l2,l3,sx,s1,s2,s3]
 rw[zai (fun i=>S75 false x x.vy (Q i) i) x.vy.length (by unfold LF;omega)]
 . rw[S75];simp(disch:=apply zq;omega) only[go_sem,simprocAttr,↓Nat.reduceEqDiff,xx,hcl,l4,s4,c5,l5,s5]
 . rw[S75,Q0];simp(disch:=apply zq;omega) only[go_sem,simprocAttr,↓Nat.reduceEqDiff,xx,lx,l1,l2,l3,hcl]
 . exact st
 . rw[S75];simp(disch:=apply zq;omega) only[go_sem,simprocAttr,↓Nat.reduceEqDiff,xx,hcl,l4,s4]
abbrev z4b (x:Rl):AV:=.agg [.str x.nm,.str x.pat,.lst true .sc [],i64 x.fr,i64 x.sl,i64 x.dn,i64 x.ng,.lst true .sc [],z7s true x.al,.bool x.sg,i64 x.co,.str x.pr]
theorem z34 (h:8<=n){xs:List (List UInt8)}{x:Rl}(hx:RlOk x)(hg:x.tg=[])(hv0:x.vy=[])(h0:xs.length≠0)(hl:xs.length<=500) :
  call gl tab n 75 [.ptr 100000 [],z4b x] [(100000,bx 100001 xs),(100001,gw xs)]=some (.tup [],[(100000,bx 20000 (xs++rlP x)),(100001,.dead)],[gw (xs++rlP x)]):=by
 obtain⟨d,rfl⟩:=wA h
 have e:xs++rlP x=xs++[x.nm,x.pat,x.pr]++[zaj [x.fr,x.sl,x.dn,x.ng,fl x.sg,x.co]]++[]++cdP x.al:=by simp[rlP,hg,hv0,vsP]
 rw[e]
 have c0:=@z14 gl (d+7) (by omega) x.sg
 have c1:=@zib gl (d+7) (by omega) xs [x.nm,x.pat,x.pr] h0 (by omega) (by simp) 3 rfl
 have c2:=@zmm gl (d+7) (by omega) (xs++[x.nm,x.pat,x.pr]) _ (by simp) (by simp;omega) hx.i 6 rfl
 have c3:=@zyw gl (d+7) (by omega) true (xs++[x.nm,x.pat,x.pr]++[zaj [x.fr,x.sl,x.dn,x.ng,fl x.sg,x.co]]) [] (by simp) (by simp;omega) (by simp)
 have c5:=@ztv gl (d+7) (by omega) true (xs++[x.nm,x.pat,x.pr]++[zaj [x.fr,x.sl,x.dn,x.ng,fl x.sg,x.co]]++[]) x.al hx.a (by simp) (by simp;omega)
 have lx:=zaa xs
 have sx:=zan xs
 have e4:strsAV [x.nm,x.pat,x.pr]=[.str x.nm,.str x.pat,.str x.pr]:=rfl
 have e5:nsI [x.fr,x.sl,x.dn,x.ng,fl x.sg,x.co]=[i64 x.fr,i64 x.sl,i64 x.dn,i64 x.ng,i64 (fl x.sg),i64 x.co]:=rfl
 have e6:strsAV []=[]:=rfl
 rw[zau (fd:=fd75) rfl]
 unfold bx gw gi at *
 rw[e4]at c1
 rw[e5]at c2
 rw[e6]at c3
 generalize zaj [x.fr,x.sl,x.dn,x.ng,fl x.sg,x.co]=z1 at *
 generalize xs++[x.nm,x.pat,x.pr]=q1 at *
 generalize q1++[z1]=q2 at *
 generalize q2++[]=q3 at *
 generalize q3++cdP x.al=q4 at *
 have l1:=zaa q1
 have s1:=zan q1
 have l2:=zaa q2
 have s2:=zan q2
 have l3:=zaa q3
 have s3:=zan q3
 have l5:=zaa q4
 have s5:=zan q4
 simp(maxSteps:=1000000) (disch:=apply zq;omega) only[go_sem,simprocAttr,↓Nat.reduceEqDiff,xx,fd75,m75,c0,c1,c2,c3,lx,l1,l2,l3,sx,s1,s2,s3]
 rw[zai (fun i=>(⟨[.set 38 (i64 i),.set 37 (i64 0),.set 36 (.lst true .sc []),.set 3 (.ptr 3 []),.set 0 (.ptr 100000 [])],[(100001,.dead),(100000,bx 8000 q3),(8000,gw q3),(3,.fix sRl (z4b x))]⟩:St)) 0 (by unfold LF;omega)]
 . simp(disch:=apply zq;omega) only[go_sem,simprocAttr,↓Nat.reduceEqDiff,xx,l3,s3,c5,l5,s5]
 . simp(disch:=apply zq;omega) only[go_sem,simprocAttr,↓Nat.reduceEqDiff,xx,lx,l1,l2,l3]
 . intro i hi;omega
 . simp(disch:=apply zq;omega) only[go_sem,simprocAttr,↓Nat.reduceEqDiff,xx,l3,s3]
end Go.Proofs.S44.L
