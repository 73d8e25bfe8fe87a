/-
  Chapter 44: texts that are added. No condition.
-/
import Derived.Test.YtcddalfeicoedaaGreatDoorW44G7x3
set_option linter.all false
open Nat renaming exists_eq_add_of_le'->wA,le_refl->wB
open List renaming take_of_length_le->wC,length_append->wD,take_succ_eq_append_getElem->wE,flatten_append->wF,append_assoc->wG,getElem_mem->wH,map_append->wI,append_nil->wJ
namespace Go.Proofs.S44.L
open Go Go.Ev Go.Proofs Go.Proofs.S44
open Go.Proofs.S44.H (strsAV zaa zai Sml GlK GlR zam zbn nsI zal zint zau encB zaw zaf)
variable {gl :Gl} {n:Nat}
theorem st1 (a:List UInt8):strsAV [a]=[.str a]:=rfl
abbrev bx (q:Nat)(xs:List (List UInt8)):OB:=.fix (.st [.sc]) (.aggR [.sl q [] 0 xs.length])
abbrev b0 :OB:=.fix (.st [.sc]) (.agg [.lst true .sc []])
abbrev gw (xs:List (List UInt8)):OB:=.grow .sc (strsAV xs)
theorem zao (l:List (List UInt8)):(strsAV l).all (fun x=>x.scalar)=true:=by simp[strsAV,AV.scalar]
theorem zyr (h:1<=n)(f:Bool){xs ys:List (List UInt8)}(h0:xs.length≠0)(hx:xs.length<=1000)(hy:ys.length<=1000) :
  call gl tab n 72 [.ptr 100000 [],.lst f .sc (strsAV ys)] [(100000,bx 100001 xs),(100001,gw xs)]=some (.tup [],[(100000,bx 20000 (xs++ys)),(100001,.dead)],[gw (xs++ys)]):=by
 obtain⟨d,rfl⟩:=wA h
 have lx:=zaa xs
 have ly:=zaa ys
 have hL:xs.length+ys.length<=LIM:=by unfold LIM;omega
 rw[za7 (fd:=fd72) rfl]
 unfold bx gw
 rw[zex,wD]
 simp(disch:=apply zq;omega) only[go_sem,simprocAttr,↓Nat.reduceEqDiff,xx,fd72,m72,lx,ly,hL]
theorem zh8 (h:1<=n){xs ys:List (List UInt8)}(h0:xs.length≠0)(hx:xs.length<=1000)(hy:ys.length<=1000){k:Nat}(hk:ys.length=k) :
  call gl tab n 72 [.ptr 100000 [],.sl 100002 [] 0 k] [(100000,bx 100001 xs),(100001,gw xs),(100002,gw ys)]=some (.tup [],[(100000,bx 20000 (xs++ys)),(100001,.dead),(100002,gw ys)],[gw (xs++ys)]):=by
 subst hk
 obtain⟨d,rfl⟩:=wA h
 have lx:=zaa xs
 have ly:=zaa ys
 have hL:xs.length+ys.length<=LIM:=by unfold LIM;omega
 have ty:List.take ys.length (strsAV ys)=strsAV ys:=wC (by omega)
 rw[za7 (fd:=fd72) rfl]
 unfold bx gw
 rw[zex,wD]
 simp(disch:=apply zq;omega) only[go_sem,simprocAttr,↓Nat.reduceEqDiff,xx,fd72,m72,lx,ly,hL,ty]
theorem ql3 (h:1<=n){ys:List (List UInt8)}(h0:ys.length≠0)(hy:ys.length<=1000){k:Nat}(hk:ys.length=k) :
  call gl tab n 72 [.ptr 100000 [],.sl 100001 [] 0 k] [(100000,b0),(100001,gw ys)]=some (.tup [],[(100000,bx 20000 ys),(100001,gw ys)],[gw ys]):=by
 subst hk
 obtain⟨d,rfl⟩:=wA h
 have ly:=zaa ys
 have hL:0+ys.length<=LIM:=by unfold LIM;omega
 have hL0:ys.length<=LIM:=by unfold LIM;omega
 have ty:List.take ys.length (strsAV ys)=strsAV ys:=wC (by omega)
 rw[za7 (fd:=fd72) rfl]
 unfold bx gw
 simp(disch:=apply zq;omega) only[go_sem,simprocAttr,↓Nat.reduceEqDiff,xx,fd72,m72,ly,hL,hL0,ty]
abbrev gi (l:List Int):OB:=.grow .sc (nsI l)
theorem qfb (h:5<=n)(f:Bool){xs:List (List UInt8)}{l:List Int}(h0:xs.length≠0)(hx:xs.length<=1000)(hl:zbn l) :
  call gl tab n 73 [.ptr 100000 [],.lst f .sc (nsI l)] [(100000,bx 100001 xs),(100001,gw xs)]=some (.tup [],[(100000,bx 20000 (xs++[zam l])),(100001,.dead)],[gw (xs++[zam l])]):=by
 obtain⟨d,rfl⟩:=wA h
 have c:=@H.ints_ok gl (d+4) (by omega) f l hl
 have c2:=@zh8 gl (d+4) (by omega) xs [zam l] h0 hx (by simp) 1 rfl
 have t:List.take (zam l).length (zac (zam l))=zac (zam l):=wC (by rw[zab];exact wB _)
 have lx:=zaa xs
 have la:=zaa (xs++[zam l])
 have sx:=zao xs
 have sa:=zao (xs++[zam l])
 rw[za7 (fd:=fd73) rfl]
 unfold bx gw at *
 simp only[st1]at c2
 generalize zam l=z at *
 generalize strsAV (xs++[z])=sz at *
 simp(disch:=apply zq;omega) only[go_sem,simprocAttr,↓Nat.reduceEqDiff,xx,fd73,m73,H.noImms_bytesAV,c,c2,zab,t,lx,la,sx,sa]
theorem zmg (h:5<=n){xs:List (List UInt8)}{l:List Int}(h0:xs.length≠0)(hx:xs.length<=1000)(hl:zbn l){k:Nat}(hk:l.length=k) :
  call gl tab n 73 [.ptr 100000 [],.sl 100002 [] 0 k] [(100000,bx 100001 xs),(100001,gw xs),(100002,gi l)]=some (.tup [],[(100000,bx 20000 (xs++[zam l])),(100001,.dead),(100002,gi l)],[gw (xs++[zam l])]):=by
 subst hk
 obtain⟨d,rfl⟩:=wA h
 have c:=@H.ints_ok gl (d+4) (by omega) false l hl
 have c2:=@zh8 gl (d+4) (by omega) xs [zam l] h0 hx (by simp) 1 rfl
 have t:List.take (zam l).length (zac (zam l))=zac (zam l):=wC (by rw[zab];exact wB _)
 have ln:=zal l
 have tn:List.take l.length (nsI l)=nsI l:=wC (by omega)
 have lx:=zaa xs
 have la:=zaa (xs++[zam l])
 have sx:=zao xs
 have sa:=zao (xs++[zam l])
 rw[za7 (fd:=fd73) rfl]
 unfold bx gw at *
 simp only[st1]at c2
 generalize zam l=z at *
 generalize strsAV (xs++[z])=sz at *
 simp(disch:=apply zq;omega) only[go_sem,simprocAttr,↓Nat.reduceEqDiff,xx,fd73,m73,H.noImms_bytesAV,c,c2,zab,t,lx,la,sx,sa,ln,tn]
theorem z8d (h:5<=n){l:List Int}(hl:zbn l){k:Nat}(hk:l.length=k) :
  call gl tab n 73 [.ptr 100000 [],.sl 100001 [] 0 k] [(100000,b0),(100001,gi l)]=some (.tup [],[(100000,bx 20000 [zam l]),(100001,gi l)],[gw [zam l]]):=by
 subst hk
 obtain⟨d,rfl⟩:=wA h
 have c:=@H.ints_ok gl (d+4) (by omega) false l hl
 have c2:=@ql3 gl (d+4) (by omega) [zam l] (by simp) (by simp) 1 rfl
 have t:List.take (zam l).length (zac (zam l))=zac (zam l):=wC (by rw[zab];exact wB _)
 have ln:=zal l
 have tn:List.take l.length (nsI l)=nsI l:=wC (by omega)
 rw[za7 (fd:=fd73) rfl]
 unfold bx gw at *
 simp only[st1,List.length_singleton]at c2 ⊢
 generalize zam l=z at *
 simp(disch:=apply zq;omega) only[go_sem,simprocAttr,↓Nat.reduceEqDiff,xx,fd73,m73,H.noImms_bytesAV,c,c2,zab,t,ln,tn]
end Go.Proofs.S44.L
namespace Go.Proofs.S44.L
open Go Go.Ev Go.Proofs Go.Proofs.S44
open Go.Proofs.S44.H (strsAV zaa zai Sml GlK GlR zam zbn nsI zal zint zau encB zaw zaf)
variable {gl :Gl} {n:Nat}
structure Cd where
 fr:Int
 to:Int
 pat:List UInt8
 cl:List (List UInt8)
 co:List (List UInt8)
 si:List Int
 us:Int
abbrev sCd :Sh:=.st [.sc,.sc,.sc,.sc,.sc,.sc,.sc]
abbrev qcp (f:Bool)(x:Cd):AV:=.agg [i64 x.fr,i64 x.to,.str x.pat,.lst f .sc (strsAV x.cl),.lst f .sc (strsAV x.co),.lst f .sc (nsI x.si),i64 x.us]
abbrev cdAV (x:Cd):AV:=qcp false x
structure CdOk (x:Cd):Prop where
 i:zbn [x.fr,x.to,x.us]
 cl:Sml x.cl
 co:Sml x.co
 si:zbn x.si
def cdP (x:Cd):List (List UInt8):=[zam [x.fr,x.to,x.us],x.pat,zbg x.cl,zbg x.co,zam x.si]
theorem ztv (h:7<=n)(f:Bool){xs:List (List UInt8)}{x:Cd}(hx:CdOk x)(h0:xs.length≠0)(hl:xs.length<=900) :
  call gl tab n 123 [.ptr 100000 [],qcp f x] [(100000,bx 100001 xs),(100001,gw xs)]=some (.tup [],[(100000,bx 20000 (xs++cdP x)),(100001,.dead)],[gw (xs++cdP x)]):=by
 obtain⟨d,rfl⟩:=wA h
 have c1:=@zmg gl (d+6) (by omega) xs _ h0 (by omega) hx.i 3 rfl
 have c2:=@zfg gl (d+6) (by omega) f x.cl hx.cl
 have c3:=@zfg gl (d+6) (by omega) f x.co hx.co
 have c4:=@zh8 gl (d+6) (by omega) (xs++[zam [x.fr,x.to,x.us]]) [x.pat,zbg x.cl,zbg x.co] (by simp) (by simp;omega) (by simp) 3 rfl
 have c5:=@qfb gl (d+6) (by omega) f (xs++[zam [x.fr,x.to,x.us]]++[x.pat,zbg x.cl,zbg x.co]) _ (by simp) (by simp;omega) hx.si
 have e:xs++cdP x=xs++[zam [x.fr,x.to,x.us]]++[x.pat,zbg x.cl,zbg x.co]++[zam x.si]:=by simp[cdP]
 rw[e]
 have t1:List.take (zbg x.cl).length (zac (zbg x.cl))=zac (zbg x.cl):=wC (by rw[zab];exact wB _)
 have t2:List.take (zbg x.co).length (zac (zbg x.co))=zac (zbg x.co):=wC (by rw[zab];exact wB _)
 rw[za7 (fd:=z6l) rfl]
 have lx:=zaa xs
 have sx:=zao xs
 generalize zam [x.fr,x.to,x.us]=z1 at *
 generalize zbg x.cl=z2 at *
 generalize zbg x.co=z3 at *
 generalize zam x.si=z4 at *
 have l1:=zaa (xs++[z1])
 have s1:=zao (xs++[z1])
 have l2:=zaa (xs++[z1]++[x.pat,z2,z3])
 have s2:=zao (xs++[z1]++[x.pat,z2,z3])
 have l3:=zaa (xs++[z1]++[x.pat,z2,z3]++[z4])
 have s3:=zao (xs++[z1]++[x.pat,z2,z3]++[z4])
 have e4:strsAV [x.pat,z2,z3]=[.str x.pat,.str z2,.str z3]:=rfl
 have e5:nsI [x.fr,x.to,x.us]=[i64 x.fr,i64 x.to,i64 x.us]:=rfl
 unfold bx gw gi at *
 rw[e4]at c4
 rw[e5]at c1
 generalize xs++[z1]=q1 at *
 generalize q1++[x.pat,z2,z3]=q2 at *
 generalize q2++[z4]=q3 at *
 simp(maxSteps:=1000000) (disch:=apply zq;omega) only[go_sem,simprocAttr,↓Nat.reduceEqDiff,xx,z6l,m123,H.noImms_bytesAV,c1,c2,c3,c4,c5,zab,t1,t2,lx,l1,l2,l3,sx,s1,s2,s3]
end Go.Proofs.S44.L
namespace Go.Proofs.S44.L
open Go Go.Ev Go.Proofs Go.Proofs.S44
open Go.Proofs.S44.H (strsAV zaa zai Sml GlK GlR zam zbn nsI zal zint zau encB zaw zaf)
variable {gl :Gl} {n:Nat}
structure Tk where
 cu:Int
 se:Int
 id:List UInt8
 cs:List Cd
 sgn:List UInt8
def cds (l:List Cd):List AV:=l.map cdAV
theorem zc0 (l:List Cd):(cds l).length=l.length:=by simp[cds]
def zCd :Cd:=⟨0,0,[],[],[],[],0⟩
def cat (l:List Cd)(i:Nat):Cd:=l.getD i zCd
theorem zv4 {l:List Cd}{i:Nat}(h:i<l.length):(cds l)[i]? =some (cdAV (cat l i)):=by simp[cds,cat,h]
theorem zt0 {l:List Cd}{i:Nat}(h:i<l.length):cat l i∈l:=by
 rw[show cat l i=l[i] by simp[cat,h]];exact wH h
abbrev tkAV (x:Tk):AV:=.agg [i64 x.cu,i64 x.se,.str x.id,.lst false sCd (cds x.cs),bAV x.sgn]
structure TkOk (x:Tk):Prop where
 i:zbn [x.cu,x.se]
 cl:x.cs.length<=8
 c:∀y∈x.cs,CdOk y
 s:x.sgn.length=16
def csP (l:List Cd)(i:Nat):List (List UInt8):=((l.take i).map cdP).flatten
theorem qci (l:List Cd):csP l 0=[]:=by simp[csP]
theorem qcg {l:List Cd}{i:Nat}(h:i<l.length):csP l (i+1)=csP l i++cdP (cat l i):=by
 rw[csP,wE h,wI,wF,show cat l i=l[i] by simp[cat,h]];simp[csP]
theorem zmr {l:List Cd}:∀{i:Nat},i<=l.length->(csP l i).length=5*i
 | 0,_=>by rw[qci];rfl
 | i+1,h=>by
   rw[qcg (by omega),wD,zmr (by omega)]
   show 5*i+5=5*(i+1);omega
def tkP (x:Tk):List (List UInt8):=[zam [x.cu,x.se],x.id,x.sgn]++csP x.cs x.cs.length
def L74 :MC:=match m74 with| .seq _ (.seq _ (.seq _ (.seq _ (.block _ (.loop _ b)))))=>b|_=>.skip
def S74 (f:Bool)(x:List Cd)(q:List (List UInt8))(i:Nat):St:=⟨[.set 24 (i64 i),.set 23 (i64 x.length),.set 22 (.lst f sCd (cds x)),.set 0 (.ptr 100000 [])],[(100001,.dead),(100000,bx 8000 q),(8000,gw q)]⟩
theorem qdy {d:Nat}(hd:7<=d)(f:Bool){l:List Cd}(hl:l.length<=100)(hc:∀y∈l,CdOk y){q:List (List UInt8)}(hq0:q.length≠0)(hq:q.length<=900)(i:Nat)(hi:i<l.length) :
  zbd [.slot 0,.slot 22,.slot 23,.slot 24,.mv 100000 [0] 8000] (evC gl (call gl tab d) L74 (S74 f l q i))=some (S74 f l (q++cdP (cat l i)) (i+1)):=by
 have hx:=zv4 hi
 have c:=@ztv gl d hd false q _ (hc _ (zt0 hi)) hq0 hq
 have hcl:=zc0 l
 have l1:=zaa q
 have s1:=zao q
 have l2:=zaa (q++cdP (cat l i))
 have s2:=zao (q++cdP (cat l i))
 rw[S74,S74]
 unfold bx gw at *
 generalize q++cdP (cat l i)=q' at *
 generalize cat l i=y at *
 simp(disch:=apply zq;omega) only[go_sem,simprocAttr,↓Nat.reduceEqDiff,xx,L74,m74,hx,hcl,c,l1,l2,s1,s2]
theorem z3i (h:8<=n){xs:List (List UInt8)}{x:Tk}(hx:TkOk x)(h0:xs.length≠0)(hl:xs.length<=500) :
  call gl tab n 74 [.ptr 100000 [],tkAV x] [(100000,bx 100001 xs),(100001,gw xs)]=some (.tup [],[(100000,bx 20000 (xs++tkP x)),(100001,.dead)],[gw (xs++tkP x)]):=by
 obtain⟨d,rfl⟩:=wA h
 have c1:=@zmg gl (d+7) (by omega) xs _ h0 (by omega) hx.i 2 rfl
 have c4:=@zh8 gl (d+7) (by omega) (xs++[zam [x.cu,x.se]]) [x.id,x.sgn] (by simp) (by simp;omega) (by simp) 2 rfl
 have b1:=b16 hx.s
 have t1:=b16t hx.s
 have bq:=H.bytes_all x.sgn
 have hcl:=zc0 x.cs
 have cl8:=hx.cl
 rw[za7 (fd:=fd74) rfl]
 have lx:=zaa xs
 have sx:=zao xs
 have e:xs++tkP x=xs++[zam [x.cu,x.se]]++[x.id,x.sgn]++csP x.cs x.cs.length:=by simp[tkP]
 rw[e]
 have hle:(xs++[zam [x.cu,x.se]]++[x.id,x.sgn]).length<=510:=by simp;omega
 have hl0:(xs++[zam [x.cu,x.se]]++[x.id,x.sgn]).length≠0:=by simp
 generalize zam [x.cu,x.se]=z1 at *
 have e4:strsAV [x.id,x.sgn]=[.str x.id,.str x.sgn]:=rfl
 have e5:nsI [x.cu,x.se]=[i64 x.cu,i64 x.se]:=rfl
 unfold bx gw gi at *
 rw[e4]at c4
 rw[e5]at c1
 generalize xs++[z1]=q1 at *
 generalize q1++[x.id,x.sgn]=q2 at *
 have l1:=zaa q1
 have s1:=zao q1
 have l2:=zaa q2
 have s2:=zao q2
 obtain⟨Q,hQ⟩:∃Q:Nat->List (List UInt8),∀i,Q i=q2++csP x.cs i:=⟨_,fun _=>rfl⟩
 have st:∀i,i<x.cs.length->zbd [.slot 0,.slot 22,.slot 23,.slot 24,.mv 100000 [0] 8000] (evC gl (call gl tab (d+7)) L74 (S74 false x.cs (Q i) i))=some (S74 false x.cs (Q (i+1)) (i+1)):=fun i hi=>by
  have hc:=zmr (l:=x.cs) (i:=i) (by omega)
  rw[hQ (i+1),qcg hi,<-wG,<-hQ i]
  exact qdy (by omega) false (by omega) hx.c (by rw[hQ,wD];omega) (by rw[hQ,wD];omega) i hi
 simp only[L74,m74]at st
 have Q0:Q 0=q2:=by rw[hQ,qci,wJ]
 rw[<-hQ]
 have l3:=zaa (Q x.cs.length)
 have s3:=zao (Q x.cs.length)
 clear hQ
 simp(maxSteps:=1000000) (disch:=apply zq;omega) only[go_sem,simprocAttr,↓Nat.reduceEqDiff,xx,fd74,m74,c1,c4,b1,t1,bq,hcl,lx,l1,l2,sx,s1,s2]
 rw[zag (fun i=>S74 false x.cs (Q i) i) x.cs.length (by unfold LF;omega)]
 . rw[S74];simp(disch:=apply zq;omega) only[go_sem,simprocAttr,↓Nat.reduceEqDiff,xx,hcl,l3,s3]
 . rw[S74,Q0];simp(disch:=apply zq;omega) only[go_sem,simprocAttr,↓Nat.reduceEqDiff,xx,lx,l1,l2,hcl]
 . exact st
 . rw[S74];simp(disch:=apply zq;omega) only[go_sem,simprocAttr,↓Nat.reduceEqDiff,xx,hcl,l3,s3]
abbrev qdn (x:Tk):AV:=.agg [i64 x.cu,i64 x.se,.str x.id,.lst true .sc [],bAV x.sgn]
theorem zyz (h:8<=n){xs:List (List UInt8)}{x:Tk}(hx:TkOk x)(hc:x.cs=[])(h0:xs.length≠0)(hl:xs.length<=500) :
  call gl tab n 74 [.ptr 100000 [],qdn x] [(100000,bx 100001 xs),(100001,gw xs)]=some (.tup [],[(100000,bx 20000 (xs++tkP x)),(100001,.dead)],[gw (xs++tkP x)]):=by
 obtain⟨d,rfl⟩:=wA h
 have c1:=@zmg gl (d+7) (by omega) xs _ h0 (by omega) hx.i 2 rfl
 have c4:=@zh8 gl (d+7) (by omega) (xs++[zam [x.cu,x.se]]) [x.id,x.sgn] (by simp) (by simp;omega) (by simp) 2 rfl
 have b1:=b16 hx.s
 have t1:=b16t hx.s
 have bq:=H.bytes_all x.sgn
 rw[za7 (fd:=fd74) rfl]
 have lx:=zaa xs
 have sx:=zao xs
 have e:xs++tkP x=xs++[zam [x.cu,x.se]]++[x.id,x.sgn]:=by simp[tkP,hc,csP]
 rw[e]
 generalize zam [x.cu,x.se]=z1 at *
 have e4:strsAV [x.id,x.sgn]=[.str x.id,.str x.sgn]:=rfl
 have e5:nsI [x.cu,x.se]=[i64 x.cu,i64 x.se]:=rfl
 unfold bx gw gi at *
 rw[e4]at c4
 rw[e5]at c1
 generalize xs++[z1]=q1 at *
 generalize q1++[x.id,x.sgn]=q2 at *
 have l1:=zaa q1
 have s1:=zao q1
 have l2:=zaa q2
 have s2:=zao q2
 simp(maxSteps:=1000000) (disch:=apply zq;omega) only[go_sem,simprocAttr,↓Nat.reduceEqDiff,xx,fd74,m74,c1,c4,b1,t1,bq,lx,l1,l2,sx,s1,s2]
 rw[zag (fun i=>(⟨[.set 24 (i64 i),.set 23 (i64 0),.set 22 (.lst true .sc []),.set 0 (.ptr 100000 [])],[(100001,.dead),(100000,bx 8000 q2),(8000,gw q2)]⟩:St)) 0 (by unfold LF;omega)]
 . simp(disch:=apply zq;omega) only[go_sem,simprocAttr,↓Nat.reduceEqDiff,xx,l2,s2]
 . simp(disch:=apply zq;omega) only[go_sem,simprocAttr,↓Nat.reduceEqDiff,xx,lx,l1,l2]
 . intro i hi;omega
 . simp(disch:=apply zq;omega) only[go_sem,simprocAttr,↓Nat.reduceEqDiff,xx,l2,s2]
end Go.Proofs.S44.L
namespace Go.Proofs.S44.L
open Go Go.Ev Go.Proofs Go.Proofs.S44
open Go.Proofs.S44.H (strsAV zaa zai Sml GlK GlR zam zbn nsI zal zint zau encB zaw zaf)
variable {gl :Gl} {n:Nat}
structure Vy where
 h:List UInt8
 v:List (List UInt8)
 d:List UInt8
abbrev sVy :Sh:=.st [.sc,.sc,.sc]
abbrev vyAV (x:Vy):AV:=.agg [.str x.h,.lst false .sc (strsAV x.v),.str x.d]
def vys (l:List Vy):List AV:=l.map vyAV
theorem zcy (l:List Vy):(vys l).length=l.length:=by simp[vys]
def vat (l:List Vy)(i:Nat):Vy:=l.getD i ⟨[],[],[]⟩
theorem zub {l:List Vy}{i:Nat}(h:i<l.length):(vys l)[i]? =some (vyAV (vat l i)):=by simp[vys,vat,h]
theorem zk5 {l:List Vy}{i:Nat}(h:i<l.length):vat l i∈l:=by
 rw[show vat l i=l[i] by simp[vat,h]];exact wH h
def vyP (x:Vy):List (List UInt8):=[x.h,x.d,zbg x.v]
def vsP (l:List Vy)(i:Nat):List (List UInt8):=((l.take i).map vyP).flatten
theorem z8z (l:List Vy):vsP l 0=[]:=by simp[vsP]
theorem z8x {l:List Vy}{i:Nat}(h:i<l.length):vsP l (i+1)=vsP l i++vyP (vat l i):=by
 rw[vsP,wE h,wI,wF,show vat l i=l[i] by simp[vat,h]];simp[vsP]
theorem zi3 {l:List Vy}:∀{i:Nat},i<=l.length->(vsP l i).length=3*i
 | 0,_=>by rw[z8z];rfl
 | i+1,h=>by
   rw[z8x (by omega),wD,zi3 (by omega)]
   show 3*i+3=3*(i+1);omega
structure Rl where
 nm:List UInt8
 pat:List UInt8
 tg:List (List UInt8)
 fr:Int
 sl:Int
 dn:Int
 ng:Int
 vy:List Vy
 al:Cd
 sg:Bool
 co:Int
 pr:List UInt8
abbrev sRl :Sh:=.st [.sc,.sc,.sc,.sc,.sc,.sc,.sc,.sc,sCd,.sc,.sc,.sc]
abbrev rlAV (x:Rl):AV:=.agg [.str x.nm,.str x.pat,.lst false .sc (strsAV x.tg),i64 x.fr,i64 x.sl,i64 x.dn,i64 x.ng,.lst false sVy (vys x.vy),cdAV x.al,.bool x.sg,i64 x.co,.str x.pr]
def fl (b:Bool):Int:=if b then 1 else 0
structure RlOk (x:Rl):Prop where
 i:zbn [x.fr,x.sl,x.dn,x.ng,fl x.sg,x.co]
 t:x.tg.length<=20
 v:x.vy.length<=8
 vv:∀y∈x.vy,Sml y.v
 a:CdOk x.al
def rlP (x:Rl):List (List UInt8):=[x.nm,x.pat,x.pr]++[zam [x.fr,x.sl,x.dn,x.ng,fl x.sg,x.co]]++x.tg++vsP x.vy x.vy.length++cdP x.al
theorem z1y (h:1<=n)(b:Bool):call gl tab n 124 [.bool b] []=some (i64 (fl b),[],[]):=by
 obtain⟨d,rfl⟩:=wA h
 rw[zad (fd:=z14) rfl]
 cases b
 . simp(disch:=apply zq;omega) only[go_sem,simprocAttr,↓Nat.reduceEqDiff,xx,z14,m124];rfl
 . simp(disch:=apply zq;omega) only[go_sem,simprocAttr,↓Nat.reduceEqDiff,xx,z14,m124];rfl
def L75 :MC:=match m75 with| .seq _ (.seq _ (.seq _ (.seq _ (.seq (.seq _ (.block _ (.loop _ b))) _))))=>b|_=>.skip
def S75 (f:Bool)(x:Rl)(l:List Vy)(q:List (List UInt8))(i:Nat):St:=⟨[.set 38 (i64 i),.set 37 (i64 l.length),.set 36 (.lst f sVy (vys l)),.set 3 (.ptr 3 []),.set 0 (.ptr 100000 [])],[(100001,.dead),(100000,bx 8000 q),(8000,gw q),(3,.fix sRl (rlAV x))]⟩
theorem qdx {d:Nat}(hd:7<=d)(f:Bool)(x:Rl){l:List Vy}(hl:l.length<=100)(hc:∀y∈l,Sml y.v){q:List (List UInt8)}(hq0:q.length≠0)(hq:q.length<=900)(i:Nat)(hi:i<l.length) :
  zbd [.slot 0,.slot 3,.slot 36,.slot 37,.slot 38,.key 3,.mv 100000 [0] 8000] (evC gl (call gl tab d) L75 (S75 f x l q i))=some (S75 f x l (q++vyP (vat l i)) (i+1)):=by
 have hx:=zub hi
 have c0:=@zfg gl d (by omega) false _ (hc _ (zk5 hi))
 have c:=@zh8 gl d (by omega) q (vyP (vat l i)) hq0 (by omega) (by simp[vyP]) 3 rfl
 have hcl:=zcy l
 have t:List.take (zbg (vat l i).v).length (zac (zbg (vat l i).v))=zac (zbg (vat l i).v):=wC (by rw[zab];exact wB _)
 have e4:strsAV (vyP (vat l i))=[.str (vat l i).h,.str (vat l i).d,.str (zbg (vat l i).v)]:=rfl
 have l1:=zaa q
 have s1:=zao q
 have l2:=zaa (q++vyP (vat l i))
 have s2:=zao (q++vyP (vat l i))
 rw[S75,S75]
 unfold bx gw at *
 rw[e4]at c
 generalize q++vyP (vat l i)=q' at *
 generalize zbg (vat l i).v=z at *
 generalize vat l i=y at *
 clear e4
 simp(disch:=apply zq;omega) only[go_sem,simprocAttr,↓Nat.reduceEqDiff,xx,L75,m75,hx,hcl,c0,c,H.noImms_bytesAV,zab,t,l1,l2,s1,s2]
theorem z9w (h:8<=n){xs:List (List UInt8)}{x:Rl}(hx:RlOk x)(h0:xs.length≠0)(hl:xs.length<=500) :
  call gl tab n 75 [.ptr 100000 [],rlAV x] [(100000,bx 100001 xs),(100001,gw xs)]=some (.tup [],[(100000,bx 20000 (xs++rlP x)),(100001,.dead)],[gw (xs++rlP x)]):=by
 obtain⟨d,rfl⟩:=wA h
 have e:xs++rlP x=xs++[x.nm,x.pat,x.pr]++[zam [x.fr,x.sl,x.dn,x.ng,fl x.sg,x.co]]++x.tg++vsP x.vy x.vy.length++cdP x.al:=by simp[rlP]
 rw[e]
 have tg:=hx.t
 have vy:=hx.v
 have c0:=@z1y gl (d+7) (by omega) x.sg
 have c1:=@zh8 gl (d+7) (by omega) xs [x.nm,x.pat,x.pr] h0 (by omega) (by simp) 3 rfl
 have c2:=@zmg gl (d+7) (by omega) (xs++[x.nm,x.pat,x.pr]) _ (by simp) (by simp;omega) hx.i 6 rfl
 have c3:=@zyr gl (d+7) (by omega) false (xs++[x.nm,x.pat,x.pr]++[zam [x.fr,x.sl,x.dn,x.ng,fl x.sg,x.co]]) x.tg (by simp) (by simp;omega) (by omega)
 have hv:=zi3 (l:=x.vy) (wB _)
 have c5:=@ztv gl (d+7) (by omega) false (xs++[x.nm,x.pat,x.pr]++[zam [x.fr,x.sl,x.dn,x.ng,fl x.sg,x.co]]++x.tg++vsP x.vy x.vy.length) x.al hx.a (by simp) (by simp;omega)
 have hle:(xs++[x.nm,x.pat,x.pr]++[zam [x.fr,x.sl,x.dn,x.ng,fl x.sg,x.co]]++x.tg).length<=600:=by simp;omega
 have hl0:(xs++[x.nm,x.pat,x.pr]++[zam [x.fr,x.sl,x.dn,x.ng,fl x.sg,x.co]]++x.tg).length≠0:=by simp
 have lx:=zaa xs
 have sx:=zao xs
 have e4:strsAV [x.nm,x.pat,x.pr]=[.str x.nm,.str x.pat,.str x.pr]:=rfl
 have e5:nsI [x.fr,x.sl,x.dn,x.ng,fl x.sg,x.co]=[i64 x.fr,i64 x.sl,i64 x.dn,i64 x.ng,i64 (fl x.sg),i64 x.co]:=rfl
 rw[za7 (fd:=fd75) rfl]
 unfold bx gw gi at *
 rw[e4]at c1
 rw[e5]at c2
 generalize zam [x.fr,x.sl,x.dn,x.ng,fl x.sg,x.co]=z1 at *
 generalize xs++[x.nm,x.pat,x.pr]=q1 at *
 generalize q1++[z1]=q2 at *
 generalize q2++x.tg=q3 at *
 have l1:=zaa q1
 have s1:=zao q1
 have l2:=zaa q2
 have s2:=zao q2
 have l3:=zaa q3
 have s3:=zao q3
 have hcl:=zcy x.vy
 have htl:=zaa x.tg
 obtain⟨Q,hQ⟩:∃Q:Nat->List (List UInt8),∀i,Q i=q3++vsP x.vy i:=⟨_,fun _=>rfl⟩
 have st:∀i,i<x.vy.length->zbd [.slot 0,.slot 3,.slot 36,.slot 37,.slot 38,.key 3,.mv 100000 [0] 8000] (evC gl (call gl tab (d+7)) L75 (S75 false x x.vy (Q i) i))=some (S75 false x x.vy (Q (i+1)) (i+1)):=fun i hi=>by
  have hc:=zi3 (l:=x.vy) (i:=i) (by omega)
  rw[hQ (i+1),z8x hi,<-wG,<-hQ i]
  exact qdx (by omega) false _ (by omega) hx.vv (by rw[hQ,wD];omega) (by rw[hQ,wD];omega) i hi
 simp only[L75,m75]at st
 have Q0:Q 0=q3:=by rw[hQ,z8z,wJ]
 rw[<-hQ]at c5 ⊢
 have l4:=zaa (Q x.vy.length)
 have s4:=zao (Q x.vy.length)
 generalize hq4:Q x.vy.length++cdP x.al=q4 at *
 have l5:=zaa q4
 have s5:=zao q4
 clear hQ hq4
 simp(maxSteps:=1000000) (disch:=apply zq;omega) only[go_sem,simprocAttr,↓Nat.reduceEqDiff,xx,fd75,m75,c0,c1,c2,c3,hcl,htl,lx,l1,l2,l3,sx,s1,s2,s3]
 rw[zag (fun i=>S75 false x x.vy (Q i) i) x.vy.length (by unfold LF;omega)]
 . rw[S75];simp(disch:=apply zq;omega) only[go_sem,simprocAttr,↓Nat.reduceEqDiff,xx,hcl,l4,s4,c5,l5,s5]
 . rw[S75,Q0];simp(disch:=apply zq;omega) only[go_sem,simprocAttr,↓Nat.reduceEqDiff,xx,lx,l1,l2,l3,hcl]
 . exact st
 . rw[S75];simp(disch:=apply zq;omega) only[go_sem,simprocAttr,↓Nat.reduceEqDiff,xx,hcl,l4,s4]
abbrev z96 (x:Rl):AV:=.agg [.str x.nm,.str x.pat,.lst true .sc [],i64 x.fr,i64 x.sl,i64 x.dn,i64 x.ng,.lst true .sc [],qcp true x.al,.bool x.sg,i64 x.co,.str x.pr]
theorem z3x (h:8<=n){xs:List (List UInt8)}{x:Rl}(hx:RlOk x)(hg:x.tg=[])(hv0:x.vy=[])(h0:xs.length≠0)(hl:xs.length<=500) :
  call gl tab n 75 [.ptr 100000 [],z96 x] [(100000,bx 100001 xs),(100001,gw xs)]=some (.tup [],[(100000,bx 20000 (xs++rlP x)),(100001,.dead)],[gw (xs++rlP x)]):=by
 obtain⟨d,rfl⟩:=wA h
 have e:xs++rlP x=xs++[x.nm,x.pat,x.pr]++[zam [x.fr,x.sl,x.dn,x.ng,fl x.sg,x.co]]++[]++cdP x.al:=by simp[rlP,hg,hv0,vsP]
 rw[e]
 have c0:=@z1y gl (d+7) (by omega) x.sg
 have c1:=@zh8 gl (d+7) (by omega) xs [x.nm,x.pat,x.pr] h0 (by omega) (by simp) 3 rfl
 have c2:=@zmg gl (d+7) (by omega) (xs++[x.nm,x.pat,x.pr]) _ (by simp) (by simp;omega) hx.i 6 rfl
 have c3:=@zyr gl (d+7) (by omega) true (xs++[x.nm,x.pat,x.pr]++[zam [x.fr,x.sl,x.dn,x.ng,fl x.sg,x.co]]) [] (by simp) (by simp;omega) (by simp)
 have c5:=@ztv gl (d+7) (by omega) true (xs++[x.nm,x.pat,x.pr]++[zam [x.fr,x.sl,x.dn,x.ng,fl x.sg,x.co]]++[]) x.al hx.a (by simp) (by simp;omega)
 have lx:=zaa xs
 have sx:=zao xs
 have e4:strsAV [x.nm,x.pat,x.pr]=[.str x.nm,.str x.pat,.str x.pr]:=rfl
 have e5:nsI [x.fr,x.sl,x.dn,x.ng,fl x.sg,x.co]=[i64 x.fr,i64 x.sl,i64 x.dn,i64 x.ng,i64 (fl x.sg),i64 x.co]:=rfl
 have e6:strsAV []=[]:=rfl
 rw[za7 (fd:=fd75) rfl]
 unfold bx gw gi at *
 rw[e4]at c1
 rw[e5]at c2
 rw[e6]at c3
 generalize zam [x.fr,x.sl,x.dn,x.ng,fl x.sg,x.co]=z1 at *
 generalize xs++[x.nm,x.pat,x.pr]=q1 at *
 generalize q1++[z1]=q2 at *
 generalize q2++[]=q3 at *
 generalize q3++cdP x.al=q4 at *
 have l1:=zaa q1
 have s1:=zao q1
 have l2:=zaa q2
 have s2:=zao q2
 have l3:=zaa q3
 have s3:=zao q3
 have l5:=zaa q4
 have s5:=zao q4
 simp(maxSteps:=1000000) (disch:=apply zq;omega) only[go_sem,simprocAttr,↓Nat.reduceEqDiff,xx,fd75,m75,c0,c1,c2,c3,lx,l1,l2,l3,sx,s1,s2,s3]
 rw[zag (fun i=>(⟨[.set 38 (i64 i),.set 37 (i64 0),.set 36 (.lst true .sc []),.set 3 (.ptr 3 []),.set 0 (.ptr 100000 [])],[(100001,.dead),(100000,bx 8000 q3),(8000,gw q3),(3,.fix sRl (z96 x))]⟩:St)) 0 (by unfold LF;omega)]
 . simp(disch:=apply zq;omega) only[go_sem,simprocAttr,↓Nat.reduceEqDiff,xx,l3,s3,c5,l5,s5]
 . simp(disch:=apply zq;omega) only[go_sem,simprocAttr,↓Nat.reduceEqDiff,xx,lx,l1,l2,l3]
 . intro i hi;omega
 . simp(disch:=apply zq;omega) only[go_sem,simprocAttr,↓Nat.reduceEqDiff,xx,l3,s3]
end Go.Proofs.S44.L
