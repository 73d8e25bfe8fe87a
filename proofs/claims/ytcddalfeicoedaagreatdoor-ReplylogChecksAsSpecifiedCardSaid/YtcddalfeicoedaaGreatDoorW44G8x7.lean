/-
  Chapter 4: records are sealed, in both. No condition.
-/
import Derived.Test.YtcddalfeicoedaaGreatDoorW44G7x7
set_option linter.unusedVariables false
set_option linter.unusedSimpArgs false
set_option linter.unusedSectionVars false
namespace Go.Proofs.S44
open Go Go.Ev Go.Proofs
open Go.Proofs.S44.H (strsAV zab zan Sml GlK GlR zaj zbr nsI)
variable {gl :Gl} {n:Nat}
theorem zints_le {l:List Int}(h:l.length<=1000):(zaj l).length<=1048576:=by have:=@H.zints_len l;omega
structure KOk (k:Ky):Prop where
 p:R64 k.p
 s:R64 k.s
 k:k.k.length<=1048576
theorem VK.ok {k:Ky}(h:VK k):KOk k:=⟨R64.of h.p,R64.of h.s,by have:=h.k;omega⟩
theorem zk2 {a:Int}{l:List Int}(h:zbr (a::l)):R64 a/\zbr l:=⟨h.2 a (by simp),by have:=h.1;simp at this;omega,fun x hx=>h.2 x (by simp[hx])⟩
theorem zbo {a:Int}{l:List Int}(h1:R64 a)(h2:zbr l)(h3:l.length<1000):zbr (a::l):=⟨by simp;omega,fun x hx=>by
 simp only[List.mem_cons]at hx
 rcases hx with rfl|hx
 . exact h1
 . exact h2.2 x hx⟩
theorem zgz :zbr []:=⟨by simp,fun x hx=>by simp at hx⟩
def hdK (k:Ky)(x:Hd):Hd:=⟨x.site,x.size,x.root,x.lo,x.hi,k.s,x.sgn⟩
def hdS (k:Ky)(x:Hd):Hd:=⟨x.site,x.size,x.root,x.lo,x.hi,k.s,sea k.k 44 (hdP (hdK k x))⟩
theorem hdK_ok {k:Ky}(hk:KOk k){x:Hd}(h:HdOk x):HdOk (hdK k x):=by
 obtain⟨a1,h1⟩:=zk2 h.i
 obtain⟨a2,h2⟩:=zk2 h1
 obtain⟨a3,h3⟩:=zk2 h2
 obtain⟨a4,h4⟩:=zk2 h3
 exact⟨zbo a1 (zbo a2 (zbo a3 (zbo a4 (zbo hk.s zgz (by simp)) (by simp)) (by simp)) (by simp)) (by simp),h.r,h.s⟩
theorem hdS_ok {k:Ky}(hk:KOk k){x:Hd}(h:HdOk x):HdOk (hdS k x):=⟨(hdK_ok hk h).i,h.r,sea_len _ _ _⟩
theorem hdP_pts {x:Hd}(h:HdOk x):Pts (hdP x):=⟨by simp[hdP],fun y hy=>by
 simp only[hdP,List.mem_cons,List.not_mem_nil,or_false]at hy
 rcases hy with rfl|rfl
 . exact zints_le (by simp)
 . rw[h.r];decide⟩
theorem hdSd_at [Nonempty (GlK gl)](h:9<=n){k:Ky}(hk:KOk k)(tag:Int)(x:Hd)(hx:HdOk x):call gl tab n 110 [ky k,i64 tag,hdAV x,.fn 111 []] []=some (.agg (sAV k.k tag (hdP x)),[],[]):=by
 obtain⟨d,rfl⟩:=Nat.exists_eq_add_of_le' h
 have c1:=@hdP_at gl (d+8) (by omega) x hx
 have c2:=@make_at gl (d+8) _ (by omega) k hk.k tag false (hdP x) (hdP_pts hx)
 have q0:=H.bytes_all x.sgn
 have q1:=H.bytes_all x.root
 have d1:=zi9 k.k tag (hdP x)
 have d2:=zja k.k tag (hdP x)
 have d3:=sAV_pl k.k tag (hdP x)
 generalize sAV k.k tag (hdP x)=z at *
 generalize strsAV (hdP x)=w at *
 rw[zad (fd:=fd110) rfl]
 simp(implicitDefEqProofs:=false) (disch:=(fail_if_success intro _);omega) only[go_sem,simprocAttr,↓Nat.reduceEqDiff,xx,fd110,m110,c1,c2,hx.s,hx.r,q0,q1,d1,d2,d3,↓out16_eq,H.oo]
theorem hdS_at [Nonempty (GlK gl)](h:10<=n){k:Ky}(hk:KOk k)(x:Hd)(hx:HdOk x):call gl tab n 61 [ky k,hdAV x] []=some (hdAV (hdS k x),[],[]):=by
 obtain⟨d,rfl⟩:=Nat.exists_eq_add_of_le' h
 have c1:=@hdSd_at gl (d+9) _ (by omega) k hk 44 _ (hdK_ok hk hx)
 have q0:=H.bytes_all x.sgn
 have q1:=H.bytes_all x.root
 have d1:=zi9 k.k 44 (hdP (hdK k x))
 have d2:=zja k.k 44 (hdP (hdK k x))
 have d3:=sAV_pl k.k 44 (hdP (hdK k x))
 have e1:zac (sea k.k 44 (hdP (hdK k x)))=sAV k.k 44 (hdP (hdK k x)):=rfl
 unfold hdS
 simp only[hdAV,hdK,bAV,e1]at c1 d1 d2 d3 ⊢
 simp only[hdK,bAV]at e1
 rw[e1]
 generalize sAV k.k 44 _=z at *
 rw[zad (fd:=fd61) rfl]
 simp(implicitDefEqProofs:=false) (disch:=(fail_if_success intro _);omega) only[go_sem,simprocAttr,↓Nat.reduceEqDiff,xx,fd61,m61,c1,hx.s,hx.r,q0,q1,d1,d2,d3,↓out16_eq,H.oo]
end Go.Proofs.S44
namespace Go.Proofs.S44
open Go Go.Ev Go.Proofs
open Go.Proofs.S44.H (strsAV zab zan Sml GlK GlR zaj zbr nsI)
variable {gl :Gl} {n:Nat}
def zgt (a:Int):Bool:=decide (0<=a/\a<64)
theorem site_at (h:1<=n)(a:Int):call gl tab n 117 [i64 a] []=some (.bool (zgt a),[],[]):=by
 obtain⟨d,rfl⟩:=Nat.exists_eq_add_of_le' h
 rw[zad (fd:=fd117) rfl]
 unfold zgt
 by_cases h1:0<=a
 . by_cases h2:a<64
   . rw[decide_eq_true ⟨h1,h2⟩];simp(disch:=(fail_if_success intro _);omega) only[go_sem,simprocAttr,↓Nat.reduceEqDiff,xx,fd117,m117]
   . rw[decide_eq_false fun h=>h2 h.2];simp(disch:=(fail_if_success intro _);omega) only[go_sem,simprocAttr,↓Nat.reduceEqDiff,xx,fd117,m117]
 . rw[decide_eq_false fun h=>h1 h.1];simp(disch:=(fail_if_success intro _);omega) only[go_sem,simprocAttr,↓Nat.reduceEqDiff,xx,fd117,m117]
theorem rsite_at (h:1<=n)(a:Int):call gl tab n 48 [i64 a] []=some (.bool (zgt a),[],[]):=by
 obtain⟨d,rfl⟩:=Nat.exists_eq_add_of_le' h
 rw[zad (fd:=fd48) rfl]
 unfold zgt
 by_cases h1:0<=a
 . by_cases h2:a<64
   . rw[decide_eq_true ⟨h1,h2⟩];simp(disch:=(fail_if_success intro _);omega) only[go_sem,simprocAttr,↓Nat.reduceEqDiff,xx,fd48,m48]
   . rw[decide_eq_false fun h=>h2 h.2];simp(disch:=(fail_if_success intro _);omega) only[go_sem,simprocAttr,↓Nat.reduceEqDiff,xx,fd48,m48]
 . rw[decide_eq_false fun h=>h1 h.1];simp(disch:=(fail_if_success intro _);omega) only[go_sem,simprocAttr,↓Nat.reduceEqDiff,xx,fd48,m48]
def hdC (l:List Ky)(x:Hd):Int:=if zgt x.site=true then ckE l (1000+x.site) x.ser 44 (hdP x) x.sgn x.lo x.hi else 1
theorem SpOk.g {x:Sp}(h:SpOk x):R64 x.gate/\R64 x.ser:=⟨h.i.2 _ (by simp),h.i.2 _ (by simp)⟩
theorem LeOk.g {x:Le}(h:LeOk x):R64 x.ser:=h.i.2 _ (by simp)
theorem LeOk.u {x:Le}(h:LeOk x):R64 x.til:=h.i.2 _ (by simp)
theorem HdOk.g {x:Hd}(h:HdOk x):R64 x.ser:=h.i.2 _ (by simp)
section
variable {f :Bool} {m:Sh} {l:List Ky}
theorem hdC_at [Nonempty (GlK gl)](h:11<=n)(hm:Mk l m)(hv:VR l)(x:Hd)(hx:HdOk x):call gl tab n 70 [.lst f m (ks l),hdAV x] []=some (i64 (hdC l x),[],[]):=by
 obtain⟨d,rfl⟩:=Nat.exists_eq_add_of_le' h
 have c0:=@site_at gl (d+10) (by omega) x.site
 have q0:=H.bytes_all x.sgn
 have q1:=H.bytes_all x.root
 unfold hdC
 by_cases hsi:zgt x.site=true
 . rw[hsi]at c0
   rw[if_pos hsi]
   simp only[zgt,decide_eq_true_eq]at hsi
   have c1:=@hdP_at gl (d+10) (by omega) x hx
   have c2:=@check_at gl (d+10) f m l (1000+x.site) _ _ _ false _ (by omega) hm hv (by unfold R64;omega) hx.g 44 (hdP_pts hx) hx.s x.lo x.hi
   generalize ckE _ _ _ _ _ _ _ _=z at *
   generalize strsAV (hdP x)=w at *
   rw[zad (fd:=fd70) rfl]
   simp(implicitDefEqProofs:=false) (disch:=(fail_if_success intro _);omega) only[go_sem,simprocAttr,↓Nat.reduceEqDiff,xx,fd70,m70,c0,c1,c2,hx.s,hx.r,q0,q1]
 . rw[if_neg hsi]
   rw[Bool.not_eq_true]at hsi
   rw[hsi]at c0
   rw[zad (fd:=fd70) rfl]
   simp(implicitDefEqProofs:=false) (disch:=(fail_if_success intro _);omega) only[go_sem,simprocAttr,↓Nat.reduceEqDiff,xx,fd70,m70,c0,hx.s,hx.r,q0,q1]
theorem rhdC_at [Nonempty (GlR gl)](h:11<=n)(hm:Mk l m)(hv:VR l)(x:Hd)(hx:HdOk x):call gl tab n 95 [.lst f m (ks l),hdAV x] []=some (i64 (hdC l x),[],[]):=by
 obtain⟨d,rfl⟩:=Nat.exists_eq_add_of_le' h
 have c0:=@rsite_at gl (d+10) (by omega) x.site
 have q0:=H.bytes_all x.sgn
 have q1:=H.bytes_all x.root
 unfold hdC
 by_cases hsi:zgt x.site=true
 . rw[hsi]at c0
   rw[if_pos hsi]
   simp only[zgt,decide_eq_true_eq]at hsi
   have c1:=@rhdP_at gl (d+10) (by omega) x hx
   have c2:=@rcheck_at gl (d+10) f m l (1000+x.site) _ _ _ false _ (by omega) hm hv (by unfold R64;omega) hx.g 44 (hdP_pts hx) hx.s x.lo x.hi
   generalize ckE _ _ _ _ _ _ _ _=z at *
   generalize strsAV (hdP x)=w at *
   rw[zad (fd:=fd95) rfl]
   simp(implicitDefEqProofs:=false) (disch:=(fail_if_success intro _);omega) only[go_sem,simprocAttr,↓Nat.reduceEqDiff,xx,fd95,m95,c0,c1,c2,hx.s,hx.r,q0,q1]
 . rw[if_neg hsi]
   rw[Bool.not_eq_true]at hsi
   rw[hsi]at c0
   rw[zad (fd:=fd95) rfl]
   simp(implicitDefEqProofs:=false) (disch:=(fail_if_success intro _);omega) only[go_sem,simprocAttr,↓Nat.reduceEqDiff,xx,fd95,m95,c0,hx.s,hx.r,q0,q1]
end
end Go.Proofs.S44
namespace Go.Proofs.S44.L
open Go Go.Ev Go.Proofs Go.Proofs.S44
open Go.Proofs.S44.H (strsAV zab zan Sml GlK GlR zaj zbr nsI zint zav encB za1 zaf)
variable {gl :Gl} {n:Nat}
def zbc (l:List (List UInt8)):List UInt8:=zint l.length++(l.map encB).flatten
def spre (l:List (List UInt8))(i:Nat):List UInt8:=zint l.length++((l.take i).map encB).flatten
theorem spre_0 (l:List (List UInt8)):spre l 0=zint l.length:=by simp[spre]
theorem zha (l:List (List UInt8)):spre l l.length=zbc l:=by simp[spre,zbc]
theorem spre_s {l:List (List UInt8)}{i:Nat}(hi:i<l.length):spre l (i+1)=spre l i++encB l[i]:=by
 unfold spre;rw[List.take_succ_eq_append_getElem hi,List.map_append,List.flatten_append,<-List.append_assoc];simp
theorem spre_len {l:List (List UInt8)}(h:Sml l):∀{i:Nat},i<=l.length->(spre l i).length<=1048586*(i+1)
 | 0,_=>by rw[spre_0];have:=zav l.length;omega
 | i+1,hi=>by
   have h1:=spre_len h (i:=i) (by omega)
   have h2:=za1 l[i]
   have h3:=h.2 l[i] (List.getElem_mem (by omega))
   rw[spre_s (by omega),List.length_append];omega
def LwS :MC:=match m130 with| .seq _ (.seq _ (.seq (.seq _ (.block _ (.loop _ b))) _))=>b|_=>.skip
def SwS (f:Bool)(l:List (List UInt8))(i:Nat):St :=
 ⟨[.set 13 (.int .i64 i),.set 12 (.int .i64 l.length),.set 11 (.lst f .sc (strsAV l)),.set 5 (.sl 5005 [] 0 (spre l i).length),.set 1 (.fn 131 [])],[(5005,.grow .sc (zac (spre l i)))]⟩
theorem zfc (h:4<=n)(f:Bool)(l:List (List UInt8))(hl:Sml l):call gl tab n 86 [.lst f .sc (strsAV l)] []=some (.sl 20000 [] 0 (zbc l).length,[],[.grow .sc (zac (zbc l))]):=by
 obtain⟨d,rfl⟩:=Nat.exists_eq_add_of_le' h
 have h1:=hl.1
 have hs:∀i,i<l.length->zbm [.slot 1,.own 5 5005 .sc,.slot 11,.slot 12,.slot 13] (evC gl (call gl tab (d+2)) LwS (SwS f l i))=some (SwS f l (i+1)):=fun i hi=>by
  have hx:=zan hi
  have h3:=hl.2 l[i] (List.getElem_mem (by omega))
  have c:=H.bytes48_ok (gl:=gl) d l[i] (by omega)
  have hz:=za1 l[i]
  have hp:=spre_len hl (i:=i) (by omega)
  have hL:(spre l i).length+(encB l[i]).length<=LIM:=by unfold LIM;omega
  rw[SwS,SwS,spre_s hi,zaf,List.length_append]
  generalize spre l i=p at *
  generalize encB l[i]=q at *
  simp(disch:=(fail_if_success intro _);omega) only[go_sem,simprocAttr,↓Nat.reduceEqDiff,xx,LwS,m130,hx,zab,c,zaa,hL]
 simp only[LwS,m130]at hs
 have c0:=H.int53_ok (gl:=gl) (d+1) (l.length:Int) (by omega)
 have e2:=zaa (zbc l)
 have cl:call gl tab (d+3) 130 [.lst f .sc (strsAV l),.fn 131 []] []=some (.sl 20000 [] 0 (zbc l).length,[],[.grow .sc (zac (zbc l))]):=by
  rw[zad (fd:=fd130) rfl]
  simp(disch:=(fail_if_success intro _);omega) only[go_sem,simprocAttr,↓Nat.reduceEqDiff,xx,fd130,m130,zab,c0]
  rw[zal (SwS f l) l.length (by unfold LF;omega)]
  . rw[SwS,zha]
    simp(disch:=(fail_if_success intro _);omega) only[go_sem,simprocAttr,↓Nat.reduceEqDiff,xx,zab,zaa]
  . simp(disch:=(fail_if_success intro _);omega) only[go_sem,simprocAttr,↓Nat.reduceEqDiff,xx,SwS,spre_0,zab]
  . exact hs
  . rw[SwS,zha]
    simp(disch:=(fail_if_success intro _);omega) only[go_sem,simprocAttr,↓Nat.reduceEqDiff,xx,zab,zaa]
 rw[zad (fd:=fd86) rfl]
 generalize zbc l=z at *
 simp(disch:=(fail_if_success intro _);omega) only[go_sem,simprocAttr,↓Nat.reduceEqDiff,xx,fd86,m86,cl,e2,H.noImms_bytesAV]
def LrS :MC:=match m126 with| .seq _ (.seq _ (.seq (.seq _ (.block _ (.loop _ b))) _))=>b|_=>.skip
def SrS (f:Bool)(l:List (List UInt8))(i:Nat):St :=
 ⟨[.set 4 (.int .i64 i),.set 3 (.sl 5003 [] 0 (spre l i).length),.set 0 (.lst f .sc (strsAV l))],[(5003,.grow .sc (zac (spre l i)))]⟩
theorem rstrings_ok (h:3<=n)(f:Bool)(l:List (List UInt8))(hl:Sml l):call gl tab n 126 [.lst f .sc (strsAV l)] []=some (.sl 20000 [] 0 (zbc l).length,[],[.grow .sc (zac (zbc l))]):=by
 obtain⟨d,rfl⟩:=Nat.exists_eq_add_of_le' h
 have h1:=hl.1
 have hs:∀i,i<l.length->zbm [.slot 0,.own 3 5003 .sc,.slot 4] (evC gl (call gl tab (d+2)) LrS (SrS f l i))=some (SrS f l (i+1)):=fun i hi=>by
  have hx:=zan hi
  have h3:=hl.2 l[i] (List.getElem_mem (by omega))
  have c:=H.bytes50_ok (gl:=gl) d l[i] (by omega)
  have hz:=za1 l[i]
  have hp:=spre_len hl (i:=i) (by omega)
  have hL:(spre l i).length+(encB l[i]).length<=LIM:=by unfold LIM;omega
  rw[SrS,SrS,spre_s hi,zaf,List.length_append]
  generalize spre l i=p at *
  generalize encB l[i]=q at *
  simp(disch:=(fail_if_success intro _);omega) only[go_sem,simprocAttr,↓Nat.reduceEqDiff,xx,LrS,m126,hx,zab,c,zaa,hL]
 simp only[LrS,m126]at hs
 have c0:=H.int54_ok (gl:=gl) (d+1) (l.length:Int) (by omega)
 rw[zad (fd:=fd126) rfl]
 simp(disch:=(fail_if_success intro _);omega) only[go_sem,simprocAttr,↓Nat.reduceEqDiff,xx,fd126,m126,zab,c0]
 rw[zal (SrS f l) l.length (by unfold LF;omega)]
 . rw[SrS,zha]
   simp(disch:=(fail_if_success intro _);omega) only[go_sem,simprocAttr,↓Nat.reduceEqDiff,xx,zab,zaa]
 . simp(disch:=(fail_if_success intro _);omega) only[go_sem,simprocAttr,↓Nat.reduceEqDiff,xx,SrS,spre_0,zab]
 . exact hs
 . rw[SrS,zha]
   simp(disch:=(fail_if_success intro _);omega) only[go_sem,simprocAttr,↓Nat.reduceEqDiff,xx,zab,zaa]
theorem list_at (h:4<=n)(f:Bool)(l:List (List UInt8))(hl:Sml l):call gl tab n 80 [.lst f .sc (strsAV l)] []=some (.str (zbc l),[],[]):=by
 obtain⟨d,rfl⟩:=Nat.exists_eq_add_of_le' h
 have c:=@rstrings_ok gl (d+3) (by omega) f l hl
 have t:List.take (zbc l).length (zac (zbc l))=zac (zbc l):=List.take_of_length_le (by rw[zaa];exact Nat.le_refl _)
 rw[zad (fd:=fd80) rfl]
 generalize zbc l=z at *
 simp(disch:=(fail_if_success intro _);omega) only[go_sem,simprocAttr,↓Nat.reduceEqDiff,xx,fd80,m80,c,zaa,t]
theorem int_at (h:4<=n)(f:Bool)(l:List Int)(hl:zbr l):call gl tab n 81 [.lst f .sc (nsI l)] []=some (.str (zaj l),[],[]):=by
 obtain⟨d,rfl⟩:=Nat.exists_eq_add_of_le' h
 have c:=@H.rints_ok gl (d+3) (by omega) f l hl
 have t:List.take (zaj l).length (zac (zaj l))=zac (zaj l):=List.take_of_length_le (by rw[zaa];exact Nat.le_refl _)
 rw[zad (fd:=fd81) rfl]
 generalize zaj l=z at *
 simp(disch:=(fail_if_success intro _);omega) only[go_sem,simprocAttr,↓Nat.reduceEqDiff,xx,fd81,m81,c,zaa,t]
end Go.Proofs.S44.L
namespace Go.Proofs.S44.L
open Go Go.Ev Go.Proofs Go.Proofs.S44
open Go.Proofs.S44.H (strsAV zab zan Sml GlK GlR zaj zbr nsI zak zint zav encB za1 zaf)
variable {gl :Gl} {n:Nat}
theorem st1 (a:List UInt8):strsAV [a]=[.str a]:=rfl
abbrev bx (q:Nat)(xs:List (List UInt8)):OB:=.fix (.st [.sc]) (.aggR [.sl q [] 0 xs.length])
abbrev b0 :OB:=.fix (.st [.sc]) (.agg [.lst true .sc []])
abbrev gw (xs:List (List UInt8)):OB:=.grow .sc (strsAV xs)
theorem zam (l:List (List UInt8)):(strsAV l).all (fun x=>x.scalar)=true:=by simp[strsAV,AV.scalar]
theorem add_l (h:1<=n)(f:Bool){xs ys:List (List UInt8)}(h0:xs.length≠0)(hx:xs.length<=1000)(hy:ys.length<=1000) :
  call gl tab n 72 [.ptr 100000 [],.lst f .sc (strsAV ys)] [(100000,bx 100001 xs),(100001,gw xs)]=some (.tup [],[(100000,bx 20000 (xs++ys)),(100001,.dead)],[gw (xs++ys)]):=by
 obtain⟨d,rfl⟩:=Nat.exists_eq_add_of_le' h
 have lx:=zab xs
 have ly:=zab ys
 have hL:xs.length+ys.length<=LIM:=by unfold LIM;omega
 rw[zax (fd:=fd72) rfl]
 unfold bx gw
 rw[zes,List.length_append]
 simp(disch:=(fail_if_success intro _);omega) only[go_sem,simprocAttr,↓Nat.reduceEqDiff,xx,fd72,m72,lx,ly,hL]
theorem zid (h:1<=n){xs ys:List (List UInt8)}(h0:xs.length≠0)(hx:xs.length<=1000)(hy:ys.length<=1000){k:Nat}(hk:ys.length=k) :
  call gl tab n 72 [.ptr 100000 [],.sl 100002 [] 0 k] [(100000,bx 100001 xs),(100001,gw xs),(100002,gw ys)]=some (.tup [],[(100000,bx 20000 (xs++ys)),(100001,.dead),(100002,gw ys)],[gw (xs++ys)]):=by
 subst hk
 obtain⟨d,rfl⟩:=Nat.exists_eq_add_of_le' h
 have lx:=zab xs
 have ly:=zab ys
 have hL:xs.length+ys.length<=LIM:=by unfold LIM;omega
 have ty:List.take ys.length (strsAV ys)=strsAV ys:=List.take_of_length_le (by omega)
 rw[zax (fd:=fd72) rfl]
 unfold bx gw
 rw[zes,List.length_append]
 simp(disch:=(fail_if_success intro _);omega) only[go_sem,simprocAttr,↓Nat.reduceEqDiff,xx,fd72,m72,lx,ly,hL,ty]
theorem add_0 (h:1<=n){ys:List (List UInt8)}(h0:ys.length≠0)(hy:ys.length<=1000){k:Nat}(hk:ys.length=k) :
  call gl tab n 72 [.ptr 100000 [],.sl 100001 [] 0 k] [(100000,b0),(100001,gw ys)]=some (.tup [],[(100000,bx 20000 ys),(100001,gw ys)],[gw ys]):=by
 subst hk
 obtain⟨d,rfl⟩:=Nat.exists_eq_add_of_le' h
 have ly:=zab ys
 have hL:0+ys.length<=LIM:=by unfold LIM;omega
 have hL0:ys.length<=LIM:=by unfold LIM;omega
 have ty:List.take ys.length (strsAV ys)=strsAV ys:=List.take_of_length_le (by omega)
 rw[zax (fd:=fd72) rfl]
 unfold bx gw
 simp(disch:=(fail_if_success intro _);omega) only[go_sem,simprocAttr,↓Nat.reduceEqDiff,xx,fd72,m72,ly,hL,hL0,ty]
abbrev gi (l:List Int):OB:=.grow .sc (nsI l)
theorem ints_l (h:5<=n)(f:Bool){xs:List (List UInt8)}{l:List Int}(h0:xs.length≠0)(hx:xs.length<=1000)(hl:zbr l) :
  call gl tab n 73 [.ptr 100000 [],.lst f .sc (nsI l)] [(100000,bx 100001 xs),(100001,gw xs)]=some (.tup [],[(100000,bx 20000 (xs++[zaj l])),(100001,.dead)],[gw (xs++[zaj l])]):=by
 obtain⟨d,rfl⟩:=Nat.exists_eq_add_of_le' h
 have c:=@H.ints_ok gl (d+4) (by omega) f l hl
 have c2:=@zid gl (d+4) (by omega) xs [zaj l] h0 hx (by simp) 1 rfl
 have t:List.take (zaj l).length (zac (zaj l))=zac (zaj l):=List.take_of_length_le (by rw[zaa];exact Nat.le_refl _)
 have lx:=zab xs
 have la:=zab (xs++[zaj l])
 have sx:=zam xs
 have sa:=zam (xs++[zaj l])
 rw[zax (fd:=fd73) rfl]
 unfold bx gw at *
 simp only[st1]at c2
 generalize zaj l=z at *
 generalize strsAV (xs++[z])=sz at *
 simp(disch:=(fail_if_success intro _);omega) only[go_sem,simprocAttr,↓Nat.reduceEqDiff,xx,fd73,m73,H.noImms_bytesAV,c,c2,zaa,t,lx,la,sx,sa]
theorem ints_o (h:5<=n){xs:List (List UInt8)}{l:List Int}(h0:xs.length≠0)(hx:xs.length<=1000)(hl:zbr l){k:Nat}(hk:l.length=k) :
  call gl tab n 73 [.ptr 100000 [],.sl 100002 [] 0 k] [(100000,bx 100001 xs),(100001,gw xs),(100002,gi l)]=some (.tup [],[(100000,bx 20000 (xs++[zaj l])),(100001,.dead),(100002,gi l)],[gw (xs++[zaj l])]):=by
 subst hk
 obtain⟨d,rfl⟩:=Nat.exists_eq_add_of_le' h
 have c:=@H.ints_ok gl (d+4) (by omega) false l hl
 have c2:=@zid gl (d+4) (by omega) xs [zaj l] h0 hx (by simp) 1 rfl
 have t:List.take (zaj l).length (zac (zaj l))=zac (zaj l):=List.take_of_length_le (by rw[zaa];exact Nat.le_refl _)
 have ln:=zak l
 have tn:List.take l.length (nsI l)=nsI l:=List.take_of_length_le (by omega)
 have lx:=zab xs
 have la:=zab (xs++[zaj l])
 have sx:=zam xs
 have sa:=zam (xs++[zaj l])
 rw[zax (fd:=fd73) rfl]
 unfold bx gw at *
 simp only[st1]at c2
 generalize zaj l=z at *
 generalize strsAV (xs++[z])=sz at *
 simp(disch:=(fail_if_success intro _);omega) only[go_sem,simprocAttr,↓Nat.reduceEqDiff,xx,fd73,m73,H.noImms_bytesAV,c,c2,zaa,t,lx,la,sx,sa,ln,tn]
theorem ints_0 (h:5<=n){l:List Int}(hl:zbr l){k:Nat}(hk:l.length=k) :
  call gl tab n 73 [.ptr 100000 [],.sl 100001 [] 0 k] [(100000,b0),(100001,gi l)]=some (.tup [],[(100000,bx 20000 [zaj l]),(100001,gi l)],[gw [zaj l]]):=by
 subst hk
 obtain⟨d,rfl⟩:=Nat.exists_eq_add_of_le' h
 have c:=@H.ints_ok gl (d+4) (by omega) false l hl
 have c2:=@add_0 gl (d+4) (by omega) [zaj l] (by simp) (by simp) 1 rfl
 have t:List.take (zaj l).length (zac (zaj l))=zac (zaj l):=List.take_of_length_le (by rw[zaa];exact Nat.le_refl _)
 have ln:=zak l
 have tn:List.take l.length (nsI l)=nsI l:=List.take_of_length_le (by omega)
 rw[zax (fd:=fd73) rfl]
 unfold bx gw at *
 simp only[st1,List.length_singleton]at c2 ⊢
 generalize zaj l=z at *
 simp(disch:=(fail_if_success intro _);omega) only[go_sem,simprocAttr,↓Nat.reduceEqDiff,xx,fd73,m73,H.noImms_bytesAV,c,c2,zaa,t,ln,tn]
end Go.Proofs.S44.L
namespace Go.Proofs.S44.L
open Go Go.Ev Go.Proofs Go.Proofs.S44
open Go.Proofs.S44.H (strsAV zab zan Sml GlK GlR zaj zbr nsI zak zint zav encB za1 zaf)
variable {gl :Gl} {n:Nat}
structure Cd where
 fr:Int
 to:Int
 pat:List UInt8
 cl:List (List UInt8)
 co:List (List UInt8)
 si:List Int
 us:Int
abbrev sCd :Sh:=.st [.sc,.sc,.sc,.sc,.sc,.sc,.sc]
abbrev cdAVf (f:Bool)(x:Cd):AV:=.agg [i64 x.fr,i64 x.to,.str x.pat,.lst f .sc (strsAV x.cl),.lst f .sc (strsAV x.co),.lst f .sc (nsI x.si),i64 x.us]
abbrev cdAV (x:Cd):AV:=cdAVf false x
structure CdOk (x:Cd):Prop where
 i:zbr [x.fr,x.to,x.us]
 cl:Sml x.cl
 co:Sml x.co
 si:zbr x.si
def cdP (x:Cd):List (List UInt8):=[zaj [x.fr,x.to,x.us],x.pat,zbc x.cl,zbc x.co,zaj x.si]
theorem cond_at (h:7<=n)(f:Bool){xs:List (List UInt8)}{x:Cd}(hx:CdOk x)(h0:xs.length≠0)(hl:xs.length<=900) :
  call gl tab n 123 [.ptr 100000 [],cdAVf f x] [(100000,bx 100001 xs),(100001,gw xs)]=some (.tup [],[(100000,bx 20000 (xs++cdP x)),(100001,.dead)],[gw (xs++cdP x)]):=by
 obtain⟨d,rfl⟩:=Nat.exists_eq_add_of_le' h
 have c1:=@ints_o gl (d+6) (by omega) xs _ h0 (by omega) hx.i 3 rfl
 have c2:=@zfc gl (d+6) (by omega) f x.cl hx.cl
 have c3:=@zfc gl (d+6) (by omega) f x.co hx.co
 have c4:=@zid gl (d+6) (by omega) (xs++[zaj [x.fr,x.to,x.us]]) [x.pat,zbc x.cl,zbc x.co] (by simp) (by simp;omega) (by simp) 3 rfl
 have c5:=@ints_l gl (d+6) (by omega) f (xs++[zaj [x.fr,x.to,x.us]]++[x.pat,zbc x.cl,zbc x.co]) _ (by simp) (by simp;omega) hx.si
 have e:xs++cdP x=xs++[zaj [x.fr,x.to,x.us]]++[x.pat,zbc x.cl,zbc x.co]++[zaj x.si]:=by simp[cdP]
 rw[e]
 have t1:List.take (zbc x.cl).length (zac (zbc x.cl))=zac (zbc x.cl):=List.take_of_length_le (by rw[zaa];exact Nat.le_refl _)
 have t2:List.take (zbc x.co).length (zac (zbc x.co))=zac (zbc x.co):=List.take_of_length_le (by rw[zaa];exact Nat.le_refl _)
 rw[zax (fd:=fd123) rfl]
 have lx:=zab xs
 have sx:=zam xs
 generalize zaj [x.fr,x.to,x.us]=z1 at *
 generalize zbc x.cl=z2 at *
 generalize zbc x.co=z3 at *
 generalize zaj x.si=z4 at *
 have l1:=zab (xs++[z1])
 have s1:=zam (xs++[z1])
 have l2:=zab (xs++[z1]++[x.pat,z2,z3])
 have s2:=zam (xs++[z1]++[x.pat,z2,z3])
 have l3:=zab (xs++[z1]++[x.pat,z2,z3]++[z4])
 have s3:=zam (xs++[z1]++[x.pat,z2,z3]++[z4])
 have e4:strsAV [x.pat,z2,z3]=[.str x.pat,.str z2,.str z3]:=rfl
 have e5:nsI [x.fr,x.to,x.us]=[i64 x.fr,i64 x.to,i64 x.us]:=rfl
 unfold bx gw gi at *
 rw[e4]at c4
 rw[e5]at c1
 generalize xs++[z1]=q1 at *
 generalize q1++[x.pat,z2,z3]=q2 at *
 generalize q2++[z4]=q3 at *
 simp(maxSteps:=1000000) (disch:=(fail_if_success intro _);omega) only[go_sem,simprocAttr,↓Nat.reduceEqDiff,xx,fd123,m123,H.noImms_bytesAV,c1,c2,c3,c4,c5,zaa,t1,t2,lx,l1,l2,l3,sx,s1,s2,s3]
end Go.Proofs.S44.L
