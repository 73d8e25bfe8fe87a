/-
  Chapter 44: texts that are added. No condition.
-/
import Derived.Test.YtcddalfeicoedaaGreatDoorW44G8x4
set_option linter.all false
open Nat renaming exists_eq_add_of_le'->wA,le_refl->wB
open List renaming take_of_length_le->wC,length_append->wD
namespace Go.Proofs.S44.L
open Go Go.Ev Go.Proofs Go.Proofs.S44
open Go.Proofs.S44.H (strsAV zaa zaj Sml GlK GlR zal zbk nsI zak zint zat encB zaw zae)
variable {gl :Gl} {n:Nat}
theorem st1 (a:List UInt8):strsAV [a]=[.str a]:=rfl
abbrev bx (q:Nat)(xs:List (List UInt8)):OB:=.fix (.st [.sc]) (.aggR [.sl q [] 0 xs.length])
abbrev b0 :OB:=.fix (.st [.sc]) (.agg [.lst true .sc []])
abbrev gw (xs:List (List UInt8)):OB:=.grow .sc (strsAV xs)
theorem zan (l:List (List UInt8)):(strsAV l).all (fun x=>x.scalar)=true:=by simp[strsAV,AV.scalar]
theorem zx5 (h:1<=n)(f:Bool){xs ys:List (List UInt8)}(h0:xs.length≠0)(hx:xs.length<=1000)(hy:ys.length<=1000) :
  call gl tab n 72 [.ptr 100000 [],.lst f .sc (strsAV ys)] [(100000,bx 100001 xs),(100001,gw xs)]=some (.tup [],[(100000,bx 20000 (xs++ys)),(100001,.dead)],[gw (xs++ys)]):=by
 obtain⟨d,rfl⟩:=wA h
 have lx:=zaa xs
 have ly:=zaa ys
 have hL:xs.length+ys.length<=LIM:=by unfold LIM;omega
 rw[za3 (fd:=fd72) rfl]
 unfold bx gw
 rw[zer,wD]
 simp(disch:=apply zq;omega) only[go_sem,simprocAttr,↓Nat.reduceEqDiff,xx,fd72,m72,lx,ly,hL]
theorem zh7 (h:1<=n){xs ys:List (List UInt8)}(h0:xs.length≠0)(hx:xs.length<=1000)(hy:ys.length<=1000){k:Nat}(hk:ys.length=k) :
  call gl tab n 72 [.ptr 100000 [],.sl 100002 [] 0 k] [(100000,bx 100001 xs),(100001,gw xs),(100002,gw ys)]=some (.tup [],[(100000,bx 20000 (xs++ys)),(100001,.dead),(100002,gw ys)],[gw (xs++ys)]):=by
 subst hk
 obtain⟨d,rfl⟩:=wA h
 have lx:=zaa xs
 have ly:=zaa ys
 have hL:xs.length+ys.length<=LIM:=by unfold LIM;omega
 have ty:List.take ys.length (strsAV ys)=strsAV ys:=wC (by omega)
 rw[za3 (fd:=fd72) rfl]
 unfold bx gw
 rw[zer,wD]
 simp(disch:=apply zq;omega) only[go_sem,simprocAttr,↓Nat.reduceEqDiff,xx,fd72,m72,lx,ly,hL,ty]
theorem qkj (h:1<=n){ys:List (List UInt8)}(h0:ys.length≠0)(hy:ys.length<=1000){k:Nat}(hk:ys.length=k) :
  call gl tab n 72 [.ptr 100000 [],.sl 100001 [] 0 k] [(100000,b0),(100001,gw ys)]=some (.tup [],[(100000,bx 20000 ys),(100001,gw ys)],[gw ys]):=by
 subst hk
 obtain⟨d,rfl⟩:=wA h
 have ly:=zaa ys
 have hL:0+ys.length<=LIM:=by unfold LIM;omega
 have hL0:ys.length<=LIM:=by unfold LIM;omega
 have ty:List.take ys.length (strsAV ys)=strsAV ys:=wC (by omega)
 rw[za3 (fd:=fd72) rfl]
 unfold bx gw
 simp(disch:=apply zq;omega) only[go_sem,simprocAttr,↓Nat.reduceEqDiff,xx,fd72,m72,ly,hL,hL0,ty]
abbrev gi (l:List Int):OB:=.grow .sc (nsI l)
theorem qee (h:5<=n)(f:Bool){xs:List (List UInt8)}{l:List Int}(h0:xs.length≠0)(hx:xs.length<=1000)(hl:zbk l) :
  call gl tab n 73 [.ptr 100000 [],.lst f .sc (nsI l)] [(100000,bx 100001 xs),(100001,gw xs)]=some (.tup [],[(100000,bx 20000 (xs++[zal l])),(100001,.dead)],[gw (xs++[zal l])]):=by
 obtain⟨d,rfl⟩:=wA h
 have c:=@H.ints_ok gl (d+4) (by omega) f l hl
 have c2:=@zh7 gl (d+4) (by omega) xs [zal l] h0 hx (by simp) 1 rfl
 have t:List.take (zal l).length (zac (zal l))=zac (zal l):=wC (by rw[zab];exact wB _)
 have lx:=zaa xs
 have la:=zaa (xs++[zal l])
 have sx:=zan xs
 have sa:=zan (xs++[zal l])
 rw[za3 (fd:=fd73) rfl]
 unfold bx gw at *
 simp only[st1]at c2
 generalize zal l=z at *
 generalize strsAV (xs++[z])=sz at *
 simp(disch:=apply zq;omega) only[go_sem,simprocAttr,↓Nat.reduceEqDiff,xx,fd73,m73,H.noImms_bytesAV,c,c2,zab,t,lx,la,sx,sa]
theorem zl4 (h:5<=n){xs:List (List UInt8)}{l:List Int}(h0:xs.length≠0)(hx:xs.length<=1000)(hl:zbk l){k:Nat}(hk:l.length=k) :
  call gl tab n 73 [.ptr 100000 [],.sl 100002 [] 0 k] [(100000,bx 100001 xs),(100001,gw xs),(100002,gi l)]=some (.tup [],[(100000,bx 20000 (xs++[zal l])),(100001,.dead),(100002,gi l)],[gw (xs++[zal l])]):=by
 subst hk
 obtain⟨d,rfl⟩:=wA h
 have c:=@H.ints_ok gl (d+4) (by omega) false l hl
 have c2:=@zh7 gl (d+4) (by omega) xs [zal l] h0 hx (by simp) 1 rfl
 have t:List.take (zal l).length (zac (zal l))=zac (zal l):=wC (by rw[zab];exact wB _)
 have ln:=zak l
 have tn:List.take l.length (nsI l)=nsI l:=wC (by omega)
 have lx:=zaa xs
 have la:=zaa (xs++[zal l])
 have sx:=zan xs
 have sa:=zan (xs++[zal l])
 rw[za3 (fd:=fd73) rfl]
 unfold bx gw at *
 simp only[st1]at c2
 generalize zal l=z at *
 generalize strsAV (xs++[z])=sz at *
 simp(disch:=apply zq;omega) only[go_sem,simprocAttr,↓Nat.reduceEqDiff,xx,fd73,m73,H.noImms_bytesAV,c,c2,zab,t,lx,la,sx,sa,ln,tn]
theorem z7f (h:5<=n){l:List Int}(hl:zbk l){k:Nat}(hk:l.length=k) :
  call gl tab n 73 [.ptr 100000 [],.sl 100001 [] 0 k] [(100000,b0),(100001,gi l)]=some (.tup [],[(100000,bx 20000 [zal l]),(100001,gi l)],[gw [zal l]]):=by
 subst hk
 obtain⟨d,rfl⟩:=wA h
 have c:=@H.ints_ok gl (d+4) (by omega) false l hl
 have c2:=@qkj gl (d+4) (by omega) [zal l] (by simp) (by simp) 1 rfl
 have t:List.take (zal l).length (zac (zal l))=zac (zal l):=wC (by rw[zab];exact wB _)
 have ln:=zak l
 have tn:List.take l.length (nsI l)=nsI l:=wC (by omega)
 rw[za3 (fd:=fd73) rfl]
 unfold bx gw at *
 simp only[st1,List.length_singleton]at c2 ⊢
 generalize zal l=z at *
 simp(disch:=apply zq;omega) only[go_sem,simprocAttr,↓Nat.reduceEqDiff,xx,fd73,m73,H.noImms_bytesAV,c,c2,zab,t,ln,tn]
end Go.Proofs.S44.L
namespace Go.Proofs.S44.L
open Go Go.Ev Go.Proofs Go.Proofs.S44
open Go.Proofs.S44.H (strsAV zaa zaj Sml GlK GlR zal zbk nsI zak zint zat encB zaw zae)
variable {gl :Gl} {n:Nat}
structure Cd where
 fr:Int
 to:Int
 pat:List UInt8
 cl:List (List UInt8)
 co:List (List UInt8)
 si:List Int
 us:Int
abbrev sCd :Sh:=.st [.sc,.sc,.sc,.sc,.sc,.sc,.sc]
abbrev qbr (f:Bool)(x:Cd):AV:=.agg [i64 x.fr,i64 x.to,.str x.pat,.lst f .sc (strsAV x.cl),.lst f .sc (strsAV x.co),.lst f .sc (nsI x.si),i64 x.us]
abbrev cdAV (x:Cd):AV:=qbr false x
structure CdOk (x:Cd):Prop where
 i:zbk [x.fr,x.to,x.us]
 cl:Sml x.cl
 co:Sml x.co
 si:zbk x.si
def cdP (x:Cd):List (List UInt8):=[zal [x.fr,x.to,x.us],x.pat,zbb x.cl,zbb x.co,zal x.si]
theorem ztb (h:7<=n)(f:Bool){xs:List (List UInt8)}{x:Cd}(hx:CdOk x)(h0:xs.length≠0)(hl:xs.length<=900) :
  call gl tab n 123 [.ptr 100000 [],qbr f x] [(100000,bx 100001 xs),(100001,gw xs)]=some (.tup [],[(100000,bx 20000 (xs++cdP x)),(100001,.dead)],[gw (xs++cdP x)]):=by
 obtain⟨d,rfl⟩:=wA h
 have c1:=@zl4 gl (d+6) (by omega) xs _ h0 (by omega) hx.i 3 rfl
 have c2:=@zfc gl (d+6) (by omega) f x.cl hx.cl
 have c3:=@zfc gl (d+6) (by omega) f x.co hx.co
 have c4:=@zh7 gl (d+6) (by omega) (xs++[zal [x.fr,x.to,x.us]]) [x.pat,zbb x.cl,zbb x.co] (by simp) (by simp;omega) (by simp) 3 rfl
 have c5:=@qee gl (d+6) (by omega) f (xs++[zal [x.fr,x.to,x.us]]++[x.pat,zbb x.cl,zbb x.co]) _ (by simp) (by simp;omega) hx.si
 have e:xs++cdP x=xs++[zal [x.fr,x.to,x.us]]++[x.pat,zbb x.cl,zbb x.co]++[zal x.si]:=by simp[cdP]
 rw[e]
 have t1:List.take (zbb x.cl).length (zac (zbb x.cl))=zac (zbb x.cl):=wC (by rw[zab];exact wB _)
 have t2:List.take (zbb x.co).length (zac (zbb x.co))=zac (zbb x.co):=wC (by rw[zab];exact wB _)
 rw[za3 (fd:=z5r) rfl]
 have lx:=zaa xs
 have sx:=zan xs
 generalize zal [x.fr,x.to,x.us]=z1 at *
 generalize zbb x.cl=z2 at *
 generalize zbb x.co=z3 at *
 generalize zal x.si=z4 at *
 have l1:=zaa (xs++[z1])
 have s1:=zan (xs++[z1])
 have l2:=zaa (xs++[z1]++[x.pat,z2,z3])
 have s2:=zan (xs++[z1]++[x.pat,z2,z3])
 have l3:=zaa (xs++[z1]++[x.pat,z2,z3]++[z4])
 have s3:=zan (xs++[z1]++[x.pat,z2,z3]++[z4])
 have e4:strsAV [x.pat,z2,z3]=[.str x.pat,.str z2,.str z3]:=rfl
 have e5:nsI [x.fr,x.to,x.us]=[i64 x.fr,i64 x.to,i64 x.us]:=rfl
 unfold bx gw gi at *
 rw[e4]at c4
 rw[e5]at c1
 generalize xs++[z1]=q1 at *
 generalize q1++[x.pat,z2,z3]=q2 at *
 generalize q2++[z4]=q3 at *
 simp(maxSteps:=1000000) (disch:=apply zq;omega) only[go_sem,simprocAttr,↓Nat.reduceEqDiff,xx,z5r,m123,H.noImms_bytesAV,c1,c2,c3,c4,c5,zab,t1,t2,lx,l1,l2,l3,sx,s1,s2,s3]
end Go.Proofs.S44.L
namespace Go.Proofs.S44.L
open Go Go.Ev Go.Proofs Go.Proofs.S44
open Go.Proofs.S44.H (strsAV zaa zaj Sml GlK GlR zal zbk nsI zak zint zat encB zaw zae)
variable {gl :Gl} {n:Nat}
structure Tk where
 cu:Int
 se:Int
 id:List UInt8
 cs:List Cd
 sgn:List UInt8
def cds (l:List Cd):List AV:=l.map cdAV
theorem zct (l:List Cd):(cds l).length=l.length:=by simp[cds]
def zCd :Cd:=⟨0,0,[],[],[],[],0⟩
def cat (l:List Cd)(i:Nat):Cd:=l.getD i zCd
theorem zvm {l:List Cd}{i:Nat}(h:i<l.length):(cds l)[i]? =some (cdAV (cat l i)):=by simp[cds,cat,h]
theorem ztg {l:List Cd}{i:Nat}(h:i<l.length):cat l i∈l:=by
 rw[show cat l i=l[i] by simp[cat,h]];exact List.getElem_mem h
abbrev tkAV (x:Tk):AV:=.agg [i64 x.cu,i64 x.se,.str x.id,.lst false sCd (cds x.cs),bAV x.sgn]
structure TkOk (x:Tk):Prop where
 i:zbk [x.cu,x.se]
 cl:x.cs.length<=8
 c:∀y∈x.cs,CdOk y
 s:x.sgn.length=16
def csP (l:List Cd)(i:Nat):List (List UInt8):=((l.take i).map cdP).flatten
theorem qbh (l:List Cd):csP l 0=[]:=by simp[csP]
theorem qbf {l:List Cd}{i:Nat}(h:i<l.length):csP l (i+1)=csP l i++cdP (cat l i):=by
 rw[csP,List.take_succ_eq_append_getElem h,List.map_append,List.flatten_append,show cat l i=l[i] by simp[cat,h]];simp[csP]
theorem zmh {l:List Cd}:∀{i:Nat},i<=l.length->(csP l i).length=5*i
 | 0,_=>by rw[qbh];rfl
 | i+1,h=>by
   rw[qbf (by omega),wD,zmh (by omega)]
   show 5*i+5=5*(i+1);omega
def tkP (x:Tk):List (List UInt8):=[zal [x.cu,x.se],x.id,x.sgn]++csP x.cs x.cs.length
def L74 :MC:=match m74 with| .seq _ (.seq _ (.seq _ (.seq _ (.block _ (.loop _ b)))))=>b|_=>.skip
def S74 (f:Bool)(x:List Cd)(q:List (List UInt8))(i:Nat):St:=⟨[.set 24 (i64 i),.set 23 (i64 x.length),.set 22 (.lst f sCd (cds x)),.set 0 (.ptr 100000 [])],[(100001,.dead),(100000,bx 8000 q),(8000,gw q)]⟩
theorem qc2 {d:Nat}(hd:7<=d)(f:Bool){l:List Cd}(hl:l.length<=100)(hc:∀y∈l,CdOk y){q:List (List UInt8)}(hq0:q.length≠0)(hq:q.length<=900)(i:Nat)(hi:i<l.length) :
  zbm [.slot 0,.slot 22,.slot 23,.slot 24,.mv 100000 [0] 8000] (evC gl (call gl tab d) L74 (S74 f l q i))=some (S74 f l (q++cdP (cat l i)) (i+1)):=by
 have hx:=zvm hi
 have c:=@ztb gl d hd false q _ (hc _ (ztg hi)) hq0 hq
 have hcl:=zct l
 have l1:=zaa q
 have s1:=zan q
 have l2:=zaa (q++cdP (cat l i))
 have s2:=zan (q++cdP (cat l i))
 rw[S74,S74]
 unfold bx gw at *
 generalize q++cdP (cat l i)=q' at *
 generalize cat l i=y at *
 simp(disch:=apply zq;omega) only[go_sem,simprocAttr,↓Nat.reduceEqDiff,xx,L74,m74,hx,hcl,c,l1,l2,s1,s2]
theorem z2z (h:8<=n){xs:List (List UInt8)}{x:Tk}(hx:TkOk x)(h0:xs.length≠0)(hl:xs.length<=500) :
  call gl tab n 74 [.ptr 100000 [],tkAV x] [(100000,bx 100001 xs),(100001,gw xs)]=some (.tup [],[(100000,bx 20000 (xs++tkP x)),(100001,.dead)],[gw (xs++tkP x)]):=by
 obtain⟨d,rfl⟩:=wA h
 have c1:=@zl4 gl (d+7) (by omega) xs _ h0 (by omega) hx.i 2 rfl
 have c4:=@zh7 gl (d+7) (by omega) (xs++[zal [x.cu,x.se]]) [x.id,x.sgn] (by simp) (by simp;omega) (by simp) 2 rfl
 have b1:=b16 hx.s
 have t1:=b16t hx.s
 have bq:=H.bytes_all x.sgn
 have hcl:=zct x.cs
 have cl8:=hx.cl
 rw[za3 (fd:=fd74) rfl]
 have lx:=zaa xs
 have sx:=zan xs
 have e:xs++tkP x=xs++[zal [x.cu,x.se]]++[x.id,x.sgn]++csP x.cs x.cs.length:=by simp[tkP]
 rw[e]
 have hle:(xs++[zal [x.cu,x.se]]++[x.id,x.sgn]).length<=510:=by simp;omega
 have hl0:(xs++[zal [x.cu,x.se]]++[x.id,x.sgn]).length≠0:=by simp
 generalize zal [x.cu,x.se]=z1 at *
 have e4:strsAV [x.id,x.sgn]=[.str x.id,.str x.sgn]:=rfl
 have e5:nsI [x.cu,x.se]=[i64 x.cu,i64 x.se]:=rfl
 unfold bx gw gi at *
 rw[e4]at c4
 rw[e5]at c1
 generalize xs++[z1]=q1 at *
 generalize q1++[x.id,x.sgn]=q2 at *
 have l1:=zaa q1
 have s1:=zan q1
 have l2:=zaa q2
 have s2:=zan q2
 obtain⟨Q,hQ⟩:∃Q:Nat->List (List UInt8),∀i,Q i=q2++csP x.cs i:=⟨_,fun _=>rfl⟩
 have st:∀i,i<x.cs.length->zbm [.slot 0,.slot 22,.slot 23,.slot 24,.mv 100000 [0] 8000] (evC gl (call gl tab (d+7)) L74 (S74 false x.cs (Q i) i))=some (S74 false x.cs (Q (i+1)) (i+1)):=fun i hi=>by
  have hc:=zmh (l:=x.cs) (i:=i) (by omega)
  rw[hQ (i+1),qbf hi,<-List.append_assoc,<-hQ i]
  exact qc2 (by omega) false (by omega) hx.c (by rw[hQ,wD];omega) (by rw[hQ,wD];omega) i hi
 simp only[L74,m74]at st
 have Q0:Q 0=q2:=by rw[hQ,qbh,List.append_nil]
 rw[<-hQ]
 have l3:=zaa (Q x.cs.length)
 have s3:=zan (Q x.cs.length)
 clear hQ
 simp(maxSteps:=1000000) (disch:=apply zq;omega) only[go_sem,simprocAttr,↓Nat.reduceEqDiff,xx,fd74,m74,c1,c4,b1,t1,bq,hcl,lx,l1,l2,sx,s1,s2]
 rw[zam (fun i=>S74 false x.cs (Q i) i) x.cs.length (by unfold LF;omega)]
 . rw[S74];simp(disch:=apply zq;omega) only[go_sem,simprocAttr,↓Nat.reduceEqDiff,xx,hcl,l3,s3]
 . rw[S74,Q0];simp(disch:=apply zq;omega) only[go_sem,simprocAttr,↓Nat.reduceEqDiff,xx,lx,l1,l2,hcl]
 . exact st
 . rw[S74];simp(disch:=apply zq;omega) only[go_sem,simprocAttr,↓Nat.reduceEqDiff,xx,hcl,l3,s3]
abbrev qcr (x:Tk):AV:=.agg [i64 x.cu,i64 x.se,.str x.id,.lst true .sc [],bAV x.sgn]
theorem zye (h:8<=n){xs:List (List UInt8)}{x:Tk}(hx:TkOk x)(hc:x.cs=[])(h0:xs.length≠0)(hl:xs.length<=500) :
  call gl tab n 74 [.ptr 100000 [],qcr x] [(100000,bx 100001 xs),(100001,gw xs)]=some (.tup [],[(100000,bx 20000 (xs++tkP x)),(100001,.dead)],[gw (xs++tkP x)]):=by
 obtain⟨d,rfl⟩:=wA h
 have c1:=@zl4 gl (d+7) (by omega) xs _ h0 (by omega) hx.i 2 rfl
 have c4:=@zh7 gl (d+7) (by omega) (xs++[zal [x.cu,x.se]]) [x.id,x.sgn] (by simp) (by simp;omega) (by simp) 2 rfl
 have b1:=b16 hx.s
 have t1:=b16t hx.s
 have bq:=H.bytes_all x.sgn
 rw[za3 (fd:=fd74) rfl]
 have lx:=zaa xs
 have sx:=zan xs
 have e:xs++tkP x=xs++[zal [x.cu,x.se]]++[x.id,x.sgn]:=by simp[tkP,hc,csP]
 rw[e]
 generalize zal [x.cu,x.se]=z1 at *
 have e4:strsAV [x.id,x.sgn]=[.str x.id,.str x.sgn]:=rfl
 have e5:nsI [x.cu,x.se]=[i64 x.cu,i64 x.se]:=rfl
 unfold bx gw gi at *
 rw[e4]at c4
 rw[e5]at c1
 generalize xs++[z1]=q1 at *
 generalize q1++[x.id,x.sgn]=q2 at *
 have l1:=zaa q1
 have s1:=zan q1
 have l2:=zaa q2
 have s2:=zan q2
 simp(maxSteps:=1000000) (disch:=apply zq;omega) only[go_sem,simprocAttr,↓Nat.reduceEqDiff,xx,fd74,m74,c1,c4,b1,t1,bq,lx,l1,l2,sx,s1,s2]
 rw[zam (fun i=>(⟨[.set 24 (i64 i),.set 23 (i64 0),.set 22 (.lst true .sc []),.set 0 (.ptr 100000 [])],[(100001,.dead),(100000,bx 8000 q2),(8000,gw q2)]⟩:St)) 0 (by unfold LF;omega)]
 . simp(disch:=apply zq;omega) only[go_sem,simprocAttr,↓Nat.reduceEqDiff,xx,l2,s2]
 . simp(disch:=apply zq;omega) only[go_sem,simprocAttr,↓Nat.reduceEqDiff,xx,lx,l1,l2]
 . intro i hi;omega
 . simp(disch:=apply zq;omega) only[go_sem,simprocAttr,↓Nat.reduceEqDiff,xx,l2,s2]
end Go.Proofs.S44.L
