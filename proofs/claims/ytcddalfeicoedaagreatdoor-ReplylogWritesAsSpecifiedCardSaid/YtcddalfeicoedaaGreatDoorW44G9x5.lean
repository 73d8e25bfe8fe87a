/-
  Chapter 44: texts that are added. No condition.
-/
import Derived.Test.YtcddalfeicoedaaGreatDoorW44G8x5
set_option linter.unusedVariables false
set_option linter.unusedSimpArgs false
set_option linter.unusedSectionVars false
namespace Go.Proofs.S44.L
open Go Go.Ev Go.Proofs Go.Proofs.S44
open Go.Proofs.S44.H (strsAV strsAV_length strsAV_get Sml GlK GlR zints Few64 nsI nsI_length zint zint_len encB encB_len bytesAV_append)
variable {gl :Gl} {n:Nat}
theorem st1 (a:List UInt8):strsAV [a]=[.str a]:=rfl
abbrev bx (q:Nat)(xs:List (List UInt8)):OB:=.fix (.st [.sc]) (.aggR [.sl q [] 0 xs.length])
abbrev b0 :OB:=.fix (.st [.sc]) (.agg [.lst true .sc []])
abbrev gw (xs:List (List UInt8)):OB:=.grow .sc (strsAV xs)
theorem strs_all (l:List (List UInt8)):(strsAV l).all (fun x=>x.scalar)=true:=by simp[strsAV,AV.scalar]
theorem add_l (h:1<=n)(f:Bool){xs ys:List (List UInt8)}(h0:xs.length≠0)(hx:xs.length<=1000)(hy:ys.length<=1000) :
  call gl tab n 72 [.ptr 100000 [],.lst f .sc (strsAV ys)] [(100000,bx 100001 xs),(100001,gw xs)]=some (.tup [],[(100000,bx 20000 (xs++ys)),(100001,.dead)],[gw (xs++ys)]):=by
 obtain⟨d,rfl⟩:=Nat.exists_eq_add_of_le' h
 have lx:=strsAV_length xs
 have ly:=strsAV_length ys
 have hL:xs.length+ys.length<=LIM:=by unfold LIM;omega
 rw[call_gen (fd:=fd72) rfl]
 unfold bx gw
 rw[strs_app,List.length_append]
 simp(disch:=((fail_if_success (intro _));omega)) only[go_sem,simprocAttr,↓reduceIte,↓Nat.reduceEqDiff,xx,fd72,m72,lx,ly,hL]
theorem add_o (h:1<=n){xs ys:List (List UInt8)}(h0:xs.length≠0)(hx:xs.length<=1000)(hy:ys.length<=1000){k:Nat}(hk:ys.length=k) :
  call gl tab n 72 [.ptr 100000 [],.sl 100002 [] 0 k] [(100000,bx 100001 xs),(100001,gw xs),(100002,gw ys)]=some (.tup [],[(100000,bx 20000 (xs++ys)),(100001,.dead),(100002,gw ys)],[gw (xs++ys)]):=by
 subst hk
 obtain⟨d,rfl⟩:=Nat.exists_eq_add_of_le' h
 have lx:=strsAV_length xs
 have ly:=strsAV_length ys
 have hL:xs.length+ys.length<=LIM:=by unfold LIM;omega
 have ty:List.take ys.length (strsAV ys)=strsAV ys:=List.take_of_length_le (by omega)
 rw[call_gen (fd:=fd72) rfl]
 unfold bx gw
 rw[strs_app,List.length_append]
 simp(disch:=((fail_if_success (intro _));omega)) only[go_sem,simprocAttr,↓reduceIte,↓Nat.reduceEqDiff,xx,fd72,m72,lx,ly,hL,ty]
theorem add_0 (h:1<=n){ys:List (List UInt8)}(h0:ys.length≠0)(hy:ys.length<=1000){k:Nat}(hk:ys.length=k) :
  call gl tab n 72 [.ptr 100000 [],.sl 100001 [] 0 k] [(100000,b0),(100001,gw ys)]=some (.tup [],[(100000,bx 20000 ys),(100001,gw ys)],[gw ys]):=by
 subst hk
 obtain⟨d,rfl⟩:=Nat.exists_eq_add_of_le' h
 have ly:=strsAV_length ys
 have hL:0+ys.length<=LIM:=by unfold LIM;omega
 have hL0:ys.length<=LIM:=by unfold LIM;omega
 have ty:List.take ys.length (strsAV ys)=strsAV ys:=List.take_of_length_le (by omega)
 rw[call_gen (fd:=fd72) rfl]
 unfold bx gw
 simp(disch:=((fail_if_success (intro _));omega)) only[go_sem,simprocAttr,↓reduceIte,↓Nat.reduceEqDiff,xx,fd72,m72,ly,hL,hL0,ty]
abbrev gi (l:List Int):OB:=.grow .sc (nsI l)
theorem ints_l (h:5<=n)(f:Bool){xs:List (List UInt8)}{l:List Int}(h0:xs.length≠0)(hx:xs.length<=1000)(hl:Few64 l) :
  call gl tab n 73 [.ptr 100000 [],.lst f .sc (nsI l)] [(100000,bx 100001 xs),(100001,gw xs)]=some (.tup [],[(100000,bx 20000 (xs++[zints l])),(100001,.dead)],[gw (xs++[zints l])]):=by
 obtain⟨d,rfl⟩:=Nat.exists_eq_add_of_le' h
 have c:=@H.ints_ok gl (d+4) (by omega) f l hl
 have c2:=@add_o gl (d+4) (by omega) xs [zints l] h0 hx (by simp) 1 rfl
 have t:List.take (zints l).length (bytesAV (zints l))=bytesAV (zints l):=List.take_of_length_le (by rw[bytesAV_length];exact Nat.le_refl _)
 have lx:=strsAV_length xs
 have la:=strsAV_length (xs++[zints l])
 have sx:=strs_all xs
 have sa:=strs_all (xs++[zints l])
 rw[call_gen (fd:=fd73) rfl]
 unfold bx gw at *
 simp only[st1]at c2
 generalize zints l=z at *
 generalize strsAV (xs++[z])=sz at *
 simp(disch:=((fail_if_success (intro _));omega)) only[go_sem,simprocAttr,↓reduceIte,↓Nat.reduceEqDiff,xx,fd73,m73,H.noImms_bytesAV,c,c2,bytesAV_length,t,lx,la,sx,sa]
theorem ints_o (h:5<=n){xs:List (List UInt8)}{l:List Int}(h0:xs.length≠0)(hx:xs.length<=1000)(hl:Few64 l){k:Nat}(hk:l.length=k) :
  call gl tab n 73 [.ptr 100000 [],.sl 100002 [] 0 k] [(100000,bx 100001 xs),(100001,gw xs),(100002,gi l)]=some (.tup [],[(100000,bx 20000 (xs++[zints l])),(100001,.dead),(100002,gi l)],[gw (xs++[zints l])]):=by
 subst hk
 obtain⟨d,rfl⟩:=Nat.exists_eq_add_of_le' h
 have c:=@H.ints_ok gl (d+4) (by omega) false l hl
 have c2:=@add_o gl (d+4) (by omega) xs [zints l] h0 hx (by simp) 1 rfl
 have t:List.take (zints l).length (bytesAV (zints l))=bytesAV (zints l):=List.take_of_length_le (by rw[bytesAV_length];exact Nat.le_refl _)
 have ln:=nsI_length l
 have tn:List.take l.length (nsI l)=nsI l:=List.take_of_length_le (by omega)
 have lx:=strsAV_length xs
 have la:=strsAV_length (xs++[zints l])
 have sx:=strs_all xs
 have sa:=strs_all (xs++[zints l])
 rw[call_gen (fd:=fd73) rfl]
 unfold bx gw at *
 simp only[st1]at c2
 generalize zints l=z at *
 generalize strsAV (xs++[z])=sz at *
 simp(disch:=((fail_if_success (intro _));omega)) only[go_sem,simprocAttr,↓reduceIte,↓Nat.reduceEqDiff,xx,fd73,m73,H.noImms_bytesAV,c,c2,bytesAV_length,t,lx,la,sx,sa,ln,tn]
theorem ints_0 (h:5<=n){l:List Int}(hl:Few64 l){k:Nat}(hk:l.length=k) :
  call gl tab n 73 [.ptr 100000 [],.sl 100001 [] 0 k] [(100000,b0),(100001,gi l)]=some (.tup [],[(100000,bx 20000 [zints l]),(100001,gi l)],[gw [zints l]]):=by
 subst hk
 obtain⟨d,rfl⟩:=Nat.exists_eq_add_of_le' h
 have c:=@H.ints_ok gl (d+4) (by omega) false l hl
 have c2:=@add_0 gl (d+4) (by omega) [zints l] (by simp) (by simp) 1 rfl
 have t:List.take (zints l).length (bytesAV (zints l))=bytesAV (zints l):=List.take_of_length_le (by rw[bytesAV_length];exact Nat.le_refl _)
 have ln:=nsI_length l
 have tn:List.take l.length (nsI l)=nsI l:=List.take_of_length_le (by omega)
 rw[call_gen (fd:=fd73) rfl]
 unfold bx gw at *
 simp only[st1,List.length_singleton]at c2 ⊢
 generalize zints l=z at *
 simp(disch:=((fail_if_success (intro _));omega)) only[go_sem,simprocAttr,↓reduceIte,↓Nat.reduceEqDiff,xx,fd73,m73,H.noImms_bytesAV,c,c2,bytesAV_length,t,ln,tn]
end Go.Proofs.S44.L
namespace Go.Proofs.S44.L
open Go Go.Ev Go.Proofs Go.Proofs.S44
open Go.Proofs.S44.H (strsAV strsAV_length strsAV_get Sml GlK GlR zints Few64 nsI nsI_length zint zint_len encB encB_len bytesAV_append)
variable {gl :Gl} {n:Nat}
structure Cd where
 fr:Int
 to:Int
 pat:List UInt8
 cl:List (List UInt8)
 co:List (List UInt8)
 si:List Int
 us:Int
abbrev sCd :Sh:=.st [.sc,.sc,.sc,.sc,.sc,.sc,.sc]
abbrev cdAVf (f:Bool)(x:Cd):AV:=.agg [i64 x.fr,i64 x.to,.str x.pat,.lst f .sc (strsAV x.cl),.lst f .sc (strsAV x.co),.lst f .sc (nsI x.si),i64 x.us]
abbrev cdAV (x:Cd):AV:=cdAVf false x
structure CdOk (x:Cd):Prop where
 i:Few64 [x.fr,x.to,x.us]
 cl:Sml x.cl
 co:Sml x.co
 si:Few64 x.si
def cdP (x:Cd):List (List UInt8):=[zints [x.fr,x.to,x.us],x.pat,zstrs x.cl,zstrs x.co,zints x.si]
theorem cond_at (h:7<=n)(f:Bool){xs:List (List UInt8)}{x:Cd}(hx:CdOk x)(h0:xs.length≠0)(hl:xs.length<=900) :
  call gl tab n 123 [.ptr 100000 [],cdAVf f x] [(100000,bx 100001 xs),(100001,gw xs)]=some (.tup [],[(100000,bx 20000 (xs++cdP x)),(100001,.dead)],[gw (xs++cdP x)]):=by
 obtain⟨d,rfl⟩:=Nat.exists_eq_add_of_le' h
 have c1:=@ints_o gl (d+6) (by omega) xs _ h0 (by omega) hx.i 3 rfl
 have c2:=@strings_ok gl (d+6) (by omega) f x.cl hx.cl
 have c3:=@strings_ok gl (d+6) (by omega) f x.co hx.co
 have c4:=@add_o gl (d+6) (by omega) (xs++[zints [x.fr,x.to,x.us]]) [x.pat,zstrs x.cl,zstrs x.co] (by simp) (by simp;omega) (by simp) 3 rfl
 have c5:=@ints_l gl (d+6) (by omega) f (xs++[zints [x.fr,x.to,x.us]]++[x.pat,zstrs x.cl,zstrs x.co]) _ (by simp) (by simp;omega) hx.si
 have e:xs++cdP x=xs++[zints [x.fr,x.to,x.us]]++[x.pat,zstrs x.cl,zstrs x.co]++[zints x.si]:=by simp[cdP]
 rw[e]
 have t1:List.take (zstrs x.cl).length (bytesAV (zstrs x.cl))=bytesAV (zstrs x.cl):=List.take_of_length_le (by rw[bytesAV_length];exact Nat.le_refl _)
 have t2:List.take (zstrs x.co).length (bytesAV (zstrs x.co))=bytesAV (zstrs x.co):=List.take_of_length_le (by rw[bytesAV_length];exact Nat.le_refl _)
 rw[call_gen (fd:=fd123) rfl]
 have lx:=strsAV_length xs
 have sx:=strs_all xs
 generalize zints [x.fr,x.to,x.us]=z1 at *
 generalize zstrs x.cl=z2 at *
 generalize zstrs x.co=z3 at *
 generalize zints x.si=z4 at *
 have l1:=strsAV_length (xs++[z1])
 have s1:=strs_all (xs++[z1])
 have l2:=strsAV_length (xs++[z1]++[x.pat,z2,z3])
 have s2:=strs_all (xs++[z1]++[x.pat,z2,z3])
 have l3:=strsAV_length (xs++[z1]++[x.pat,z2,z3]++[z4])
 have s3:=strs_all (xs++[z1]++[x.pat,z2,z3]++[z4])
 have e4:strsAV [x.pat,z2,z3]=[.str x.pat,.str z2,.str z3]:=rfl
 have e5:nsI [x.fr,x.to,x.us]=[i64 x.fr,i64 x.to,i64 x.us]:=rfl
 unfold bx gw gi at *
 rw[e4]at c4
 rw[e5]at c1
 generalize xs++[z1]=q1 at *
 generalize q1++[x.pat,z2,z3]=q2 at *
 generalize q2++[z4]=q3 at *
 simp(maxSteps:=1000000) (disch:=((fail_if_success (intro _));omega)) only[go_sem,simprocAttr,↓reduceIte,↓Nat.reduceEqDiff,xx,fd123,m123,H.noImms_bytesAV,c1,c2,c3,c4,c5,bytesAV_length,t1,t2,lx,l1,l2,l3,sx,s1,s2,s3]
end Go.Proofs.S44.L
namespace Go.Proofs.S44.L
open Go Go.Ev Go.Proofs Go.Proofs.S44
open Go.Proofs.S44.H (strsAV strsAV_length strsAV_get Sml GlK GlR zints Few64 nsI nsI_length zint zint_len encB encB_len bytesAV_append)
variable {gl :Gl} {n:Nat}
structure Tk where
 cu:Int
 se:Int
 id:List UInt8
 cs:List Cd
 sgn:List UInt8
def cds (l:List Cd):List AV:=l.map cdAV
theorem cds_length (l:List Cd):(cds l).length=l.length:=by simp[cds]
def zCd :Cd:=⟨0,0,[],[],[],[],0⟩
def cat (l:List Cd)(i:Nat):Cd:=l.getD i zCd
theorem cds_at {l:List Cd}{i:Nat}(h:i<l.length):(cds l)[i]? =some (cdAV (cat l i)):=by simp[cds,cat,h]
theorem cat_mem {l:List Cd}{i:Nat}(h:i<l.length):cat l i∈l:=by
 rw[show cat l i=l[i] by simp[cat,h]];exact List.getElem_mem h
abbrev tkAV (x:Tk):AV:=.agg [i64 x.cu,i64 x.se,.str x.id,.lst false sCd (cds x.cs),bAV x.sgn]
structure TkOk (x:Tk):Prop where
 i:Few64 [x.cu,x.se]
 cl:x.cs.length<=8
 c:∀y∈x.cs,CdOk y
 s:x.sgn.length=16
def csP (l:List Cd)(i:Nat):List (List UInt8):=((l.take i).map cdP).flatten
theorem csP_0 (l:List Cd):csP l 0=[]:=by simp[csP]
theorem csP_s {l:List Cd}{i:Nat}(h:i<l.length):csP l (i+1)=csP l i++cdP (cat l i):=by
 rw[csP,List.take_succ_eq_append_getElem h,List.map_append,List.flatten_append,show cat l i=l[i] by simp[cat,h]];simp[csP]
theorem csP_len {l:List Cd}:∀{i:Nat},i<=l.length->(csP l i).length=5*i
 | 0,_=>by rw[csP_0];rfl
 | i+1,h=>by
   rw[csP_s (by omega),List.length_append,csP_len (by omega)]
   show 5*i+5=5*(i+1);omega
def tkP (x:Tk):List (List UInt8):=[zints [x.cu,x.se],x.id,x.sgn]++csP x.cs x.cs.length
def L74 :MC:=match m74 with| .seq _ (.seq _ (.seq _ (.seq _ (.block _ (.loop _ b)))))=>b|_=>.skip
def S74 (f:Bool)(x:List Cd)(q:List (List UInt8))(i:Nat):St:=⟨[.set 24 (i64 i),.set 23 (i64 x.length),.set 22 (.lst f sCd (cds x)),.set 0 (.ptr 100000 [])],[(100001,.dead),(100000,bx 8000 q),(8000,gw q)]⟩
theorem step74 {d:Nat}(hd:7<=d)(f:Bool){l:List Cd}(hl:l.length<=100)(hc:∀y∈l,CdOk y){q:List (List UInt8)}(hq0:q.length≠0)(hq:q.length<=900)(i:Nat)(hi:i<l.length) :
  contK [.slot 0,.slot 22,.slot 23,.slot 24,.mv 100000 [0] 8000] (evC gl (call gl tab d) L74 (S74 f l q i))=some (S74 f l (q++cdP (cat l i)) (i+1)):=by
 have hx:=cds_at hi
 have c:=@cond_at gl d hd false q _ (hc _ (cat_mem hi)) hq0 hq
 have hcl:=cds_length l
 have l1:=strsAV_length q
 have s1:=strs_all q
 have l2:=strsAV_length (q++cdP (cat l i))
 have s2:=strs_all (q++cdP (cat l i))
 rw[S74,S74]
 unfold bx gw at *
 generalize q++cdP (cat l i)=q' at *
 generalize cat l i=y at *
 simp(disch:=((fail_if_success (intro _));omega)) only[go_sem,simprocAttr,↓reduceIte,↓Nat.reduceEqDiff,xx,L74,m74,hx,hcl,c,l1,l2,s1,s2]
theorem token_at (h:8<=n){xs:List (List UInt8)}{x:Tk}(hx:TkOk x)(h0:xs.length≠0)(hl:xs.length<=500) :
  call gl tab n 74 [.ptr 100000 [],tkAV x] [(100000,bx 100001 xs),(100001,gw xs)]=some (.tup [],[(100000,bx 20000 (xs++tkP x)),(100001,.dead)],[gw (xs++tkP x)]):=by
 obtain⟨d,rfl⟩:=Nat.exists_eq_add_of_le' h
 have c1:=@ints_o gl (d+7) (by omega) xs _ h0 (by omega) hx.i 2 rfl
 have c4:=@add_o gl (d+7) (by omega) (xs++[zints [x.cu,x.se]]) [x.id,x.sgn] (by simp) (by simp;omega) (by simp) 2 rfl
 have b1:=b16 hx.s
 have t1:=b16t hx.s
 have bq:=H.bytes_all x.sgn
 have hcl:=cds_length x.cs
 have cl8:=hx.cl
 rw[call_gen (fd:=fd74) rfl]
 have lx:=strsAV_length xs
 have sx:=strs_all xs
 have e:xs++tkP x=xs++[zints [x.cu,x.se]]++[x.id,x.sgn]++csP x.cs x.cs.length:=by simp[tkP]
 rw[e]
 have hle:(xs++[zints [x.cu,x.se]]++[x.id,x.sgn]).length<=510:=by simp;omega
 have hl0:(xs++[zints [x.cu,x.se]]++[x.id,x.sgn]).length≠0:=by simp
 generalize zints [x.cu,x.se]=z1 at *
 have e4:strsAV [x.id,x.sgn]=[.str x.id,.str x.sgn]:=rfl
 have e5:nsI [x.cu,x.se]=[i64 x.cu,i64 x.se]:=rfl
 unfold bx gw gi at *
 rw[e4]at c4
 rw[e5]at c1
 generalize xs++[z1]=q1 at *
 generalize q1++[x.id,x.sgn]=q2 at *
 have l1:=strsAV_length q1
 have s1:=strs_all q1
 have l2:=strsAV_length q2
 have s2:=strs_all q2
 obtain⟨Q,hQ⟩:∃Q:Nat->List (List UInt8),∀i,Q i=q2++csP x.cs i:=⟨_,fun _=>rfl⟩
 have st:∀i,i<x.cs.length->contK [.slot 0,.slot 22,.slot 23,.slot 24,.mv 100000 [0] 8000] (evC gl (call gl tab (d+7)) L74 (S74 false x.cs (Q i) i))=some (S74 false x.cs (Q (i+1)) (i+1)):=fun i hi=>by
  have hc:=csP_len (l:=x.cs) (i:=i) (by omega)
  rw[hQ (i+1),csP_s hi,<-List.append_assoc,<-hQ i]
  exact step74 (by omega) false (by omega) hx.c (by rw[hQ,List.length_append];omega) (by rw[hQ,List.length_append];omega) i hi
 simp only[L74,m74]at st
 have Q0:Q 0=q2:=by rw[hQ,csP_0,List.append_nil]
 rw[<-hQ]
 have l3:=strsAV_length (Q x.cs.length)
 have s3:=strs_all (Q x.cs.length)
 clear hQ
 simp(maxSteps:=1000000) (disch:=((fail_if_success (intro _));omega)) only[go_sem,simprocAttr,↓reduceIte,↓Nat.reduceEqDiff,xx,fd74,m74,c1,c4,b1,t1,bq,hcl,lx,l1,l2,sx,s1,s2]
 rw[iter_to (fun i=>S74 false x.cs (Q i) i) x.cs.length (by unfold LF;omega)]
 . rw[S74];simp(disch:=((fail_if_success (intro _));omega)) only[go_sem,simprocAttr,↓reduceIte,↓Nat.reduceEqDiff,xx,hcl,l3,s3]
 . rw[S74,Q0];simp(disch:=((fail_if_success (intro _));omega)) only[go_sem,simprocAttr,↓reduceIte,↓Nat.reduceEqDiff,xx,lx,l1,l2,hcl]
 . exact st
 . rw[S74];simp(disch:=((fail_if_success (intro _));omega)) only[go_sem,simprocAttr,↓reduceIte,↓Nat.reduceEqDiff,xx,hcl,l3,s3]
abbrev tkAV0 (x:Tk):AV:=.agg [i64 x.cu,i64 x.se,.str x.id,.lst true .sc [],bAV x.sgn]
theorem token0_at (h:8<=n){xs:List (List UInt8)}{x:Tk}(hx:TkOk x)(hc:x.cs=[])(h0:xs.length≠0)(hl:xs.length<=500) :
  call gl tab n 74 [.ptr 100000 [],tkAV0 x] [(100000,bx 100001 xs),(100001,gw xs)]=some (.tup [],[(100000,bx 20000 (xs++tkP x)),(100001,.dead)],[gw (xs++tkP x)]):=by
 obtain⟨d,rfl⟩:=Nat.exists_eq_add_of_le' h
 have c1:=@ints_o gl (d+7) (by omega) xs _ h0 (by omega) hx.i 2 rfl
 have c4:=@add_o gl (d+7) (by omega) (xs++[zints [x.cu,x.se]]) [x.id,x.sgn] (by simp) (by simp;omega) (by simp) 2 rfl
 have b1:=b16 hx.s
 have t1:=b16t hx.s
 have bq:=H.bytes_all x.sgn
 rw[call_gen (fd:=fd74) rfl]
 have lx:=strsAV_length xs
 have sx:=strs_all xs
 have e:xs++tkP x=xs++[zints [x.cu,x.se]]++[x.id,x.sgn]:=by simp[tkP,hc,csP]
 rw[e]
 generalize zints [x.cu,x.se]=z1 at *
 have e4:strsAV [x.id,x.sgn]=[.str x.id,.str x.sgn]:=rfl
 have e5:nsI [x.cu,x.se]=[i64 x.cu,i64 x.se]:=rfl
 unfold bx gw gi at *
 rw[e4]at c4
 rw[e5]at c1
 generalize xs++[z1]=q1 at *
 generalize q1++[x.id,x.sgn]=q2 at *
 have l1:=strsAV_length q1
 have s1:=strs_all q1
 have l2:=strsAV_length q2
 have s2:=strs_all q2
 simp(maxSteps:=1000000) (disch:=((fail_if_success (intro _));omega)) only[go_sem,simprocAttr,↓reduceIte,↓Nat.reduceEqDiff,xx,fd74,m74,c1,c4,b1,t1,bq,lx,l1,l2,sx,s1,s2]
 rw[iter_to (fun i=>(⟨[.set 24 (i64 i),.set 23 (i64 0),.set 22 (.lst true .sc []),.set 0 (.ptr 100000 [])],[(100001,.dead),(100000,bx 8000 q2),(8000,gw q2)]⟩:St)) 0 (by unfold LF;omega)]
 . simp(disch:=((fail_if_success (intro _));omega)) only[go_sem,simprocAttr,↓reduceIte,↓Nat.reduceEqDiff,xx,l2,s2]
 . simp(disch:=((fail_if_success (intro _));omega)) only[go_sem,simprocAttr,↓reduceIte,↓Nat.reduceEqDiff,xx,lx,l1,l2]
 . intro i hi;omega
 . simp(disch:=((fail_if_success (intro _));omega)) only[go_sem,simprocAttr,↓reduceIte,↓Nat.reduceEqDiff,xx,l2,s2]
end Go.Proofs.S44.L
