/-
  Chapter 44: lists of texts as bytes. No condition.
-/
import Derived.Test.YtcddalfeicoedaaDoorW94G6x3
set_option linter.all false
open List renaming take_of_length_le->wA,length_append->wB,take_succ_eq_append_getElem->wC,getElem_mem->wD,flatten_append->wE,append_assoc->wF,map_append->wG
open Nat renaming exists_eq_add_of_le'->wH,le_refl->wI
namespace Go.Proofs.S94.L
open Go Go.Ev Go.Proofs Go.Proofs.S94
open Go.Proofs.S94.H (strsAV zaa zaj Sml GlK GlR zam zbh nsI zint zaw encB zaz zaf)
variable {gl :Gl} {n:Nat}
def zbz (l:List (List UInt8)):List UInt8:=zint l.length++(l.map encB).flatten
def spre (l:List (List UInt8))(i:Nat):List UInt8:=zint l.length++((l.take i).map encB).flatten
theorem zt7 (l:List (List UInt8)):spre l 0=zint l.length:=by simp[spre]
theorem zkd (l:List (List UInt8)):spre l l.length=zbz l:=by simp[spre,zbz]
theorem zt5 {l:List (List UInt8)}{i:Nat}(hi:i<l.length):spre l (i+1)=spre l i++encB l[i]:=by
 unfold spre;rw[wC hi,wG,wE,<-wF];simp
theorem zt6 {l:List (List UInt8)}(h:Sml l):∀{i:Nat},i<=l.length->(spre l i).length<=1048586*(i+1)
 | 0,_=>by rw[zt7];have:=zaw l.length;omega
 | i+1,hi=>by
   have h1:=zt6 h (i:=i) (by omega)
   have h2:=zaz l[i]
   have h3:=h.2 l[i] (wD (by omega))
   rw[zt5 (by omega),wB];omega
def LwS :MC:=match m62 with| .seq _ (.seq _ (.seq (.seq _ (.block _ (.loop _ b))) _))=>b|_=>.skip
def SwS (f:Bool)(l:List (List UInt8))(i:Nat):St :=
 ⟨[.set 13 (.int .i64 i),.set 12 (.int .i64 l.length),.set 11 (.lst f .sc (strsAV l)),.set 5 (.sl 5005 [] 0 (spre l i).length),.set 1 (.fn 63 [])],[(5005,.grow .sc (zab (spre l i)))]⟩
theorem zfc (h:4<=n)(f:Bool)(l:List (List UInt8))(hl:Sml l):call gl tab n 40 [.lst f .sc (strsAV l)] []=some (.sl 20000 [] 0 (zbz l).length,[],[.grow .sc (zab (zbz l))]):=by
 obtain⟨d,rfl⟩:=wH h
 have h1:=hl.1
 have hs:∀i,i<l.length->zb1 [.slot 1,.own 5 5005 .sc,.slot 11,.slot 12,.slot 13] (evC gl (call gl tab (d+2)) LwS (SwS f l i))=some (SwS f l (i+1)):=fun i hi=>by
  have hx:=zaj hi
  have h3:=hl.2 l[i] (wD (by omega))
  have c:=H.bytes48_ok (gl:=gl) d l[i] (by omega)
  have hz:=zaz l[i]
  have hp:=zt6 hl (i:=i) (by omega)
  have hL:(spre l i).length+(encB l[i]).length<=LIM:=by unfold LIM;omega
  rw[SwS,SwS,zt5 hi,zaf,wB]
  generalize spre l i=p at *
  generalize encB l[i]=q at *
  simp(disch:=apply zq;omega) only[go_sem,simprocAttr,↓Nat.reduceEqDiff,xx,LwS,m62,hx,zaa,c,zac,hL]
 simp only[LwS,m62]at hs
 have c0:=H.int53_ok (gl:=gl) (d+1) (l.length:Int) (by omega)
 have e2:=zac (zbz l)
 have cl:call gl tab (d+3) 62 [.lst f .sc (strsAV l),.fn 63 []] []=some (.sl 20000 [] 0 (zbz l).length,[],[.grow .sc (zab (zbz l))]):=by
  rw[zae (fd:=fd62) rfl]
  simp(disch:=apply zq;omega) only[go_sem,simprocAttr,↓Nat.reduceEqDiff,xx,fd62,m62,zaa,c0]
  rw[zao (SwS f l) l.length (by unfold LF;omega)]
  . rw[SwS,zkd]
    simp(disch:=apply zq;omega) only[go_sem,simprocAttr,↓Nat.reduceEqDiff,xx,zaa,zac]
  . simp(disch:=apply zq;omega) only[go_sem,simprocAttr,↓Nat.reduceEqDiff,xx,SwS,zt7,zaa]
  . exact hs
  . rw[SwS,zkd]
    simp(disch:=apply zq;omega) only[go_sem,simprocAttr,↓Nat.reduceEqDiff,xx,zaa,zac]
 rw[zae (fd:=fd40) rfl]
 generalize zbz l=z at *
 simp(disch:=apply zq;omega) only[go_sem,simprocAttr,↓Nat.reduceEqDiff,xx,fd40,m40,cl,e2,H.noImms_bytesAV]
end Go.Proofs.S94.L
namespace Go.Proofs.S94.L
open Go Go.Ev Go.Proofs Go.Proofs.S94
open Go.Proofs.S94.H (strsAV zaa zaj Sml GlK GlR zam zbh nsI zak zint zaw encB zaz zaf)
variable {gl :Gl} {n:Nat}
theorem st1 (a:List UInt8):strsAV [a]=[.str a]:=rfl
abbrev bx (q:Nat)(xs:List (List UInt8)):OB:=.fix (.st [.sc]) (.aggR [.sl q [] 0 xs.length])
abbrev b0 :OB:=.fix (.st [.sc]) (.agg [.lst true .sc []])
abbrev gw (xs:List (List UInt8)):OB:=.grow .sc (strsAV xs)
theorem zal (l:List (List UInt8)):(strsAV l).all (fun x=>x.scalar)=true:=by simp[strsAV,AV.scalar]
theorem zx2 (h:1<=n)(f:Bool){xs ys:List (List UInt8)}(h0:xs.length≠0)(hx:xs.length<=1000)(hy:ys.length<=1000) :
  call gl tab n 64 [.ptr 100000 [],.lst f .sc (strsAV ys)] [(100000,bx 100001 xs),(100001,gw xs)]=some (.tup [],[(100000,bx 20000 (xs++ys)),(100001,.dead)],[gw (xs++ys)]):=by
 obtain⟨d,rfl⟩:=wH h
 have lx:=zaa xs
 have ly:=zaa ys
 have hL:xs.length+ys.length<=LIM:=by unfold LIM;omega
 rw[zat (fd:=fd64) rfl]
 unfold bx gw
 rw[zoa,wB]
 simp(disch:=apply zq;omega) only[go_sem,simprocAttr,↓Nat.reduceEqDiff,xx,fd64,m64,lx,ly,hL]
theorem zh1 (h:1<=n){xs ys:List (List UInt8)}(h0:xs.length≠0)(hx:xs.length<=1000)(hy:ys.length<=1000){k:Nat}(hk:ys.length=k) :
  call gl tab n 64 [.ptr 100000 [],.sl 100002 [] 0 k] [(100000,bx 100001 xs),(100001,gw xs),(100002,gw ys)]=some (.tup [],[(100000,bx 20000 (xs++ys)),(100001,.dead),(100002,gw ys)],[gw (xs++ys)]):=by
 subst hk
 obtain⟨d,rfl⟩:=wH h
 have lx:=zaa xs
 have ly:=zaa ys
 have hL:xs.length+ys.length<=LIM:=by unfold LIM;omega
 have ty:List.take ys.length (strsAV ys)=strsAV ys:=wA (by omega)
 rw[zat (fd:=fd64) rfl]
 unfold bx gw
 rw[zoa,wB]
 simp(disch:=apply zq;omega) only[go_sem,simprocAttr,↓Nat.reduceEqDiff,xx,fd64,m64,lx,ly,hL,ty]
theorem qhl (h:1<=n){ys:List (List UInt8)}(h0:ys.length≠0)(hy:ys.length<=1000){k:Nat}(hk:ys.length=k) :
  call gl tab n 64 [.ptr 100000 [],.sl 100001 [] 0 k] [(100000,b0),(100001,gw ys)]=some (.tup [],[(100000,bx 20000 ys),(100001,gw ys)],[gw ys]):=by
 subst hk
 obtain⟨d,rfl⟩:=wH h
 have ly:=zaa ys
 have hL:0+ys.length<=LIM:=by unfold LIM;omega
 have hL0:ys.length<=LIM:=by unfold LIM;omega
 have ty:List.take ys.length (strsAV ys)=strsAV ys:=wA (by omega)
 rw[zat (fd:=fd64) rfl]
 unfold bx gw
 simp(disch:=apply zq;omega) only[go_sem,simprocAttr,↓Nat.reduceEqDiff,xx,fd64,m64,ly,hL,hL0,ty]
abbrev gi (l:List Int):OB:=.grow .sc (nsI l)
theorem qc4 (h:5<=n)(f:Bool){xs:List (List UInt8)}{l:List Int}(h0:xs.length≠0)(hx:xs.length<=1000)(hl:zbh l) :
  call gl tab n 65 [.ptr 100000 [],.lst f .sc (nsI l)] [(100000,bx 100001 xs),(100001,gw xs)]=some (.tup [],[(100000,bx 20000 (xs++[zam l])),(100001,.dead)],[gw (xs++[zam l])]):=by
 obtain⟨d,rfl⟩:=wH h
 have c:=@H.ints_ok gl (d+4) (by omega) f l hl
 have c2:=@zh1 gl (d+4) (by omega) xs [zam l] h0 hx (by simp) 1 rfl
 have t:List.take (zam l).length (zab (zam l))=zab (zam l):=wA (by rw[zac];exact wI _)
 have lx:=zaa xs
 have la:=zaa (xs++[zam l])
 have sx:=zal xs
 have sa:=zal (xs++[zam l])
 rw[zat (fd:=fd65) rfl]
 unfold bx gw at *
 simp only[st1]at c2
 generalize zam l=z at *
 generalize strsAV (xs++[z])=sz at *
 simp(disch:=apply zq;omega) only[go_sem,simprocAttr,↓Nat.reduceEqDiff,xx,fd65,m65,H.noImms_bytesAV,c,c2,zac,t,lx,la,sx,sa]
theorem zlx (h:5<=n){xs:List (List UInt8)}{l:List Int}(h0:xs.length≠0)(hx:xs.length<=1000)(hl:zbh l){k:Nat}(hk:l.length=k) :
  call gl tab n 65 [.ptr 100000 [],.sl 100002 [] 0 k] [(100000,bx 100001 xs),(100001,gw xs),(100002,gi l)]=some (.tup [],[(100000,bx 20000 (xs++[zam l])),(100001,.dead),(100002,gi l)],[gw (xs++[zam l])]):=by
 subst hk
 obtain⟨d,rfl⟩:=wH h
 have c:=@H.ints_ok gl (d+4) (by omega) false l hl
 have c2:=@zh1 gl (d+4) (by omega) xs [zam l] h0 hx (by simp) 1 rfl
 have t:List.take (zam l).length (zab (zam l))=zab (zam l):=wA (by rw[zac];exact wI _)
 have ln:=zak l
 have tn:List.take l.length (nsI l)=nsI l:=wA (by omega)
 have lx:=zaa xs
 have la:=zaa (xs++[zam l])
 have sx:=zal xs
 have sa:=zal (xs++[zam l])
 rw[zat (fd:=fd65) rfl]
 unfold bx gw at *
 simp only[st1]at c2
 generalize zam l=z at *
 generalize strsAV (xs++[z])=sz at *
 simp(disch:=apply zq;omega) only[go_sem,simprocAttr,↓Nat.reduceEqDiff,xx,fd65,m65,H.noImms_bytesAV,c,c2,zac,t,lx,la,sx,sa,ln,tn]
theorem z6i (h:5<=n){l:List Int}(hl:zbh l){k:Nat}(hk:l.length=k) :
  call gl tab n 65 [.ptr 100000 [],.sl 100001 [] 0 k] [(100000,b0),(100001,gi l)]=some (.tup [],[(100000,bx 20000 [zam l]),(100001,gi l)],[gw [zam l]]):=by
 subst hk
 obtain⟨d,rfl⟩:=wH h
 have c:=@H.ints_ok gl (d+4) (by omega) false l hl
 have c2:=@qhl gl (d+4) (by omega) [zam l] (by simp) (by simp) 1 rfl
 have t:List.take (zam l).length (zab (zam l))=zab (zam l):=wA (by rw[zac];exact wI _)
 have ln:=zak l
 have tn:List.take l.length (nsI l)=nsI l:=wA (by omega)
 rw[zat (fd:=fd65) rfl]
 unfold bx gw at *
 simp only[st1,List.length_singleton]at c2 ⊢
 generalize zam l=z at *
 simp(disch:=apply zq;omega) only[go_sem,simprocAttr,↓Nat.reduceEqDiff,xx,fd65,m65,H.noImms_bytesAV,c,c2,zac,t,ln,tn]
end Go.Proofs.S94.L
namespace Go.Proofs.S94.L
open Go Go.Ev Go.Proofs Go.Proofs.S94
open Go.Proofs.S94.H (strsAV zaa zaj Sml GlK GlR zam zbh nsI zak zint zaw encB zaz zaf)
variable {gl :Gl} {n:Nat}
structure Cd where
 fr:Int
 to:Int
 pat:List UInt8
 cl:List (List UInt8)
 co:List (List UInt8)
 si:List Int
 us:Int
abbrev sCd :Sh:=.st [.sc,.sc,.sc,.sc,.sc,.sc,.sc]
abbrev qal (f:Bool)(x:Cd):AV:=.agg [i64 x.fr,i64 x.to,.str x.pat,.lst f .sc (strsAV x.cl),.lst f .sc (strsAV x.co),.lst f .sc (nsI x.si),i64 x.us]
abbrev cdAV (x:Cd):AV:=qal false x
structure CdOk (x:Cd):Prop where
 i:zbh [x.fr,x.to,x.us]
 cl:Sml x.cl
 co:Sml x.co
 si:zbh x.si
def cdP (x:Cd):List (List UInt8):=[zam [x.fr,x.to,x.us],x.pat,zbz x.cl,zbz x.co,zam x.si]
theorem ztj (h:7<=n)(f:Bool){xs:List (List UInt8)}{x:Cd}(hx:CdOk x)(h0:xs.length≠0)(hl:xs.length<=900) :
  call gl tab n 84 [.ptr 100000 [],qal f x] [(100000,bx 100001 xs),(100001,gw xs)]=some (.tup [],[(100000,bx 20000 (xs++cdP x)),(100001,.dead)],[gw (xs++cdP x)]):=by
 obtain⟨d,rfl⟩:=wH h
 have c1:=@zlx gl (d+6) (by omega) xs _ h0 (by omega) hx.i 3 rfl
 have c2:=@zfc gl (d+6) (by omega) f x.cl hx.cl
 have c3:=@zfc gl (d+6) (by omega) f x.co hx.co
 have c4:=@zh1 gl (d+6) (by omega) (xs++[zam [x.fr,x.to,x.us]]) [x.pat,zbz x.cl,zbz x.co] (by simp) (by simp;omega) (by simp) 3 rfl
 have c5:=@qc4 gl (d+6) (by omega) f (xs++[zam [x.fr,x.to,x.us]]++[x.pat,zbz x.cl,zbz x.co]) _ (by simp) (by simp;omega) hx.si
 have e:xs++cdP x=xs++[zam [x.fr,x.to,x.us]]++[x.pat,zbz x.cl,zbz x.co]++[zam x.si]:=by simp[cdP]
 rw[e]
 have t1:List.take (zbz x.cl).length (zab (zbz x.cl))=zab (zbz x.cl):=wA (by rw[zac];exact wI _)
 have t2:List.take (zbz x.co).length (zab (zbz x.co))=zab (zbz x.co):=wA (by rw[zac];exact wI _)
 rw[zat (fd:=fd84) rfl]
 have lx:=zaa xs
 have sx:=zal xs
 generalize zam [x.fr,x.to,x.us]=z1 at *
 generalize zbz x.cl=z2 at *
 generalize zbz x.co=z3 at *
 generalize zam x.si=z4 at *
 have l1:=zaa (xs++[z1])
 have s1:=zal (xs++[z1])
 have l2:=zaa (xs++[z1]++[x.pat,z2,z3])
 have s2:=zal (xs++[z1]++[x.pat,z2,z3])
 have l3:=zaa (xs++[z1]++[x.pat,z2,z3]++[z4])
 have s3:=zal (xs++[z1]++[x.pat,z2,z3]++[z4])
 have e4:strsAV [x.pat,z2,z3]=[.str x.pat,.str z2,.str z3]:=rfl
 have e5:nsI [x.fr,x.to,x.us]=[i64 x.fr,i64 x.to,i64 x.us]:=rfl
 unfold bx gw gi at *
 rw[e4]at c4
 rw[e5]at c1
 generalize xs++[z1]=q1 at *
 generalize q1++[x.pat,z2,z3]=q2 at *
 generalize q2++[z4]=q3 at *
 simp(maxSteps:=1000000) (disch:=apply zq;omega) only[go_sem,simprocAttr,↓Nat.reduceEqDiff,xx,fd84,m84,H.noImms_bytesAV,c1,c2,c3,c4,c5,zac,t1,t2,lx,l1,l2,l3,sx,s1,s2,s3]
end Go.Proofs.S94.L
namespace Go.Proofs.S94.L
open Go Go.Ev Go.Proofs Go.Proofs.S94
open Go.Proofs.S94.H (strsAV zaa zaj Sml GlK GlR zam zbh nsI zak zint zaw encB zaz zaf)
variable {gl :Gl} {n:Nat}
structure Tk where
 cu:Int
 se:Int
 id:List UInt8
 cs:List Cd
 sgn:List UInt8
def cds (l:List Cd):List AV:=l.map cdAV
theorem zdp (l:List Cd):(cds l).length=l.length:=by simp[cds]
def zCd :Cd:=⟨0,0,[],[],[],[],0⟩
def cat (l:List Cd)(i:Nat):Cd:=l.getD i zCd
theorem z2e {l:List Cd}{i:Nat}(h:i<l.length):(cds l)[i]? =some (cdAV (cat l i)):=by simp[cds,cat,h]
theorem z2f {l:List Cd}{i:Nat}(h:i<l.length):cat l i∈l:=by
 rw[show cat l i=l[i] by simp[cat,h]];exact wD h
abbrev tkAV (x:Tk):AV:=.agg [i64 x.cu,i64 x.se,.str x.id,.lst false sCd (cds x.cs),bAV x.sgn]
structure TkOk (x:Tk):Prop where
 i:zbh [x.cu,x.se]
 cl:x.cs.length<=8
 c:∀y∈x.cs,CdOk y
 s:x.sgn.length=16
def csP (l:List Cd)(i:Nat):List (List UInt8):=((l.take i).map cdP).flatten
theorem qed (l:List Cd):csP l 0=[]:=by simp[csP]
theorem qec {l:List Cd}{i:Nat}(h:i<l.length):csP l (i+1)=csP l i++cdP (cat l i):=by
 rw[csP,wC h,wG,wE,show cat l i=l[i] by simp[cat,h]];simp[csP]
theorem zth {l:List Cd}:∀{i:Nat},i<=l.length->(csP l i).length=5*i
 | 0,_=>by rw[qed];rfl
 | i+1,h=>by
   rw[qec (by omega),wB,zth (by omega)]
   show 5*i+5=5*(i+1);omega
def tkP (x:Tk):List (List UInt8):=[zam [x.cu,x.se],x.id,x.sgn]++csP x.cs x.cs.length
def L74 :MC:=match m66 with| .seq _ (.seq _ (.seq _ (.seq _ (.block _ (.loop _ b)))))=>b|_=>.skip
def S74 (f:Bool)(x:List Cd)(q:List (List UInt8))(i:Nat):St:=⟨[.set 24 (i64 i),.set 23 (i64 x.length),.set 22 (.lst f sCd (cds x)),.set 0 (.ptr 100000 [])],[(100001,.dead),(100000,bx 8000 q),(8000,gw q)]⟩
theorem qbw {d:Nat}(hd:7<=d)(f:Bool){l:List Cd}(hl:l.length<=100)(hc:∀y∈l,CdOk y){q:List (List UInt8)}(hq0:q.length≠0)(hq:q.length<=900)(i:Nat)(hi:i<l.length) :
  zb1 [.slot 0,.slot 22,.slot 23,.slot 24,.mv 100000 [0] 8000] (evC gl (call gl tab d) L74 (S74 f l q i))=some (S74 f l (q++cdP (cat l i)) (i+1)):=by
 have hx:=z2e hi
 have c:=@ztj gl d hd false q _ (hc _ (z2f hi)) hq0 hq
 have hcl:=zdp l
 have l1:=zaa q
 have s1:=zal q
 have l2:=zaa (q++cdP (cat l i))
 have s2:=zal (q++cdP (cat l i))
 rw[S74,S74]
 unfold bx gw at *
 generalize q++cdP (cat l i)=q' at *
 generalize cat l i=y at *
 simp(disch:=apply zq;omega) only[go_sem,simprocAttr,↓Nat.reduceEqDiff,xx,L74,m66,hx,hcl,c,l1,l2,s1,s2]
theorem z24 (h:8<=n){xs:List (List UInt8)}{x:Tk}(hx:TkOk x)(h0:xs.length≠0)(hl:xs.length<=500) :
  call gl tab n 66 [.ptr 100000 [],tkAV x] [(100000,bx 100001 xs),(100001,gw xs)]=some (.tup [],[(100000,bx 20000 (xs++tkP x)),(100001,.dead)],[gw (xs++tkP x)]):=by
 obtain⟨d,rfl⟩:=wH h
 have c1:=@zlx gl (d+7) (by omega) xs _ h0 (by omega) hx.i 2 rfl
 have c4:=@zh1 gl (d+7) (by omega) (xs++[zam [x.cu,x.se]]) [x.id,x.sgn] (by simp) (by simp;omega) (by simp) 2 rfl
 have b1:=b16 hx.s
 have t1:=b16t hx.s
 have bq:=H.bytes_all x.sgn
 have hcl:=zdp x.cs
 have cl8:=hx.cl
 rw[zat (fd:=fd66) rfl]
 have lx:=zaa xs
 have sx:=zal xs
 have e:xs++tkP x=xs++[zam [x.cu,x.se]]++[x.id,x.sgn]++csP x.cs x.cs.length:=by simp[tkP]
 rw[e]
 have hle:(xs++[zam [x.cu,x.se]]++[x.id,x.sgn]).length<=510:=by simp;omega
 have hl0:(xs++[zam [x.cu,x.se]]++[x.id,x.sgn]).length≠0:=by simp
 generalize zam [x.cu,x.se]=z1 at *
 have e4:strsAV [x.id,x.sgn]=[.str x.id,.str x.sgn]:=rfl
 have e5:nsI [x.cu,x.se]=[i64 x.cu,i64 x.se]:=rfl
 unfold bx gw gi at *
 rw[e4]at c4
 rw[e5]at c1
 generalize xs++[z1]=q1 at *
 generalize q1++[x.id,x.sgn]=q2 at *
 have l1:=zaa q1
 have s1:=zal q1
 have l2:=zaa q2
 have s2:=zal q2
 obtain⟨Q,hQ⟩:∃Q:Nat->List (List UInt8),∀i,Q i=q2++csP x.cs i:=⟨_,fun _=>rfl⟩
 have st:∀i,i<x.cs.length->zb1 [.slot 0,.slot 22,.slot 23,.slot 24,.mv 100000 [0] 8000] (evC gl (call gl tab (d+7)) L74 (S74 false x.cs (Q i) i))=some (S74 false x.cs (Q (i+1)) (i+1)):=fun i hi=>by
  have hc:=zth (l:=x.cs) (i:=i) (by omega)
  rw[hQ (i+1),qec hi,<-wF,<-hQ i]
  exact qbw (by omega) false (by omega) hx.c (by rw[hQ,wB];omega) (by rw[hQ,wB];omega) i hi
 simp only[L74,m66]at st
 have Q0:Q 0=q2:=by rw[hQ,qed,List.append_nil]
 rw[<-hQ]
 have l3:=zaa (Q x.cs.length)
 have s3:=zal (Q x.cs.length)
 clear hQ
 simp(maxSteps:=1000000) (disch:=apply zq;omega) only[go_sem,simprocAttr,↓Nat.reduceEqDiff,xx,fd66,m66,c1,c4,b1,t1,bq,hcl,lx,l1,l2,sx,s1,s2]
 rw[zao (fun i=>S74 false x.cs (Q i) i) x.cs.length (by unfold LF;omega)]
 . rw[S74];simp(disch:=apply zq;omega) only[go_sem,simprocAttr,↓Nat.reduceEqDiff,xx,hcl,l3,s3]
 . rw[S74,Q0];simp(disch:=apply zq;omega) only[go_sem,simprocAttr,↓Nat.reduceEqDiff,xx,lx,l1,l2,hcl]
 . exact st
 . rw[S74];simp(disch:=apply zq;omega) only[go_sem,simprocAttr,↓Nat.reduceEqDiff,xx,hcl,l3,s3]
abbrev qbl (x:Tk):AV:=.agg [i64 x.cu,i64 x.se,.str x.id,.lst true .sc [],bAV x.sgn]
theorem zya (h:8<=n){xs:List (List UInt8)}{x:Tk}(hx:TkOk x)(hc:x.cs=[])(h0:xs.length≠0)(hl:xs.length<=500) :
  call gl tab n 66 [.ptr 100000 [],qbl x] [(100000,bx 100001 xs),(100001,gw xs)]=some (.tup [],[(100000,bx 20000 (xs++tkP x)),(100001,.dead)],[gw (xs++tkP x)]):=by
 obtain⟨d,rfl⟩:=wH h
 have c1:=@zlx gl (d+7) (by omega) xs _ h0 (by omega) hx.i 2 rfl
 have c4:=@zh1 gl (d+7) (by omega) (xs++[zam [x.cu,x.se]]) [x.id,x.sgn] (by simp) (by simp;omega) (by simp) 2 rfl
 have b1:=b16 hx.s
 have t1:=b16t hx.s
 have bq:=H.bytes_all x.sgn
 rw[zat (fd:=fd66) rfl]
 have lx:=zaa xs
 have sx:=zal xs
 have e:xs++tkP x=xs++[zam [x.cu,x.se]]++[x.id,x.sgn]:=by simp[tkP,hc,csP]
 rw[e]
 generalize zam [x.cu,x.se]=z1 at *
 have e4:strsAV [x.id,x.sgn]=[.str x.id,.str x.sgn]:=rfl
 have e5:nsI [x.cu,x.se]=[i64 x.cu,i64 x.se]:=rfl
 unfold bx gw gi at *
 rw[e4]at c4
 rw[e5]at c1
 generalize xs++[z1]=q1 at *
 generalize q1++[x.id,x.sgn]=q2 at *
 have l1:=zaa q1
 have s1:=zal q1
 have l2:=zaa q2
 have s2:=zal q2
 simp(maxSteps:=1000000) (disch:=apply zq;omega) only[go_sem,simprocAttr,↓Nat.reduceEqDiff,xx,fd66,m66,c1,c4,b1,t1,bq,lx,l1,l2,sx,s1,s2]
 rw[zao (fun i=>(⟨[.set 24 (i64 i),.set 23 (i64 0),.set 22 (.lst true .sc []),.set 0 (.ptr 100000 [])],[(100001,.dead),(100000,bx 8000 q2),(8000,gw q2)]⟩:St)) 0 (by unfold LF;omega)]
 . simp(disch:=apply zq;omega) only[go_sem,simprocAttr,↓Nat.reduceEqDiff,xx,l2,s2]
 . simp(disch:=apply zq;omega) only[go_sem,simprocAttr,↓Nat.reduceEqDiff,xx,lx,l1,l2]
 . intro i hi;omega
 . simp(disch:=apply zq;omega) only[go_sem,simprocAttr,↓Nat.reduceEqDiff,xx,l2,s2]
end Go.Proofs.S94.L
