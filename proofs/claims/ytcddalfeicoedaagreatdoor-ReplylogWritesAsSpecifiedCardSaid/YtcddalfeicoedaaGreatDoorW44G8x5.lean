/-
  Chapter 4: the parts of stamps, leases and heads. No condition.
-/
import Derived.Test.YtcddalfeicoedaaGreatDoorW44G7x5
set_option linter.unusedVariables false
set_option linter.unusedSimpArgs false
set_option linter.unusedSectionVars false
namespace Go.Proofs.S44
open Go Go.Ev Go.Proofs
open Go.Proofs.S44.H (strsAV strsAV_length strsAV_get Sml GlK GlR zints Few64 nsI)
variable {gl :Gl} {n:Nat}
theorem ints_at (h:4<=n)(f:Bool)(l:List Int)(hl:Few64 l):call gl tab n 125 [.lst f .sc (nsI l)] []=some (.str (zints l),[],[]):=by
 obtain⟨d,rfl⟩:=Nat.exists_eq_add_of_le' h
 have c:=@H.ints_ok gl (d+3) (by omega) f l hl
 have t:List.take (zints l).length (bytesAV (zints l))=bytesAV (zints l):=List.take_of_length_le (by rw[bytesAV_length];exact Nat.le_refl _)
 rw[call_go (fd:=fd125) rfl]
 generalize zints l=z at *
 simp(disch:=((fail_if_success (intro _));omega)) only[go_sem,simprocAttr,↓reduceIte,↓Nat.reduceEqDiff,xx,fd125,m125,c,bytesAV_length,t]
theorem rints_at (h:4<=n)(f:Bool)(l:List Int)(hl:Few64 l):call gl tab n 128 [.lst f .sc (nsI l)] []=some (.str (zints l),[],[]):=by
 obtain⟨d,rfl⟩:=Nat.exists_eq_add_of_le' h
 have c:=@H.rints_ok gl (d+3) (by omega) f l hl
 have t:List.take (zints l).length (bytesAV (zints l))=bytesAV (zints l):=List.take_of_length_le (by rw[bytesAV_length];exact Nat.le_refl _)
 rw[call_go (fd:=fd128) rfl]
 generalize zints l=z at *
 simp(disch:=((fail_if_success (intro _));omega)) only[go_sem,simprocAttr,↓reduceIte,↓Nat.reduceEqDiff,xx,fd128,m128,c,bytesAV_length,t]
theorem rdig_at (h:2<=n)(b:List UInt8)(hb:b.length=16):call gl tab n 129 [.agg (bytesAV b)] []=some (.str b,[],[]):=by
 obtain⟨d,rfl⟩:=Nat.exists_eq_add_of_le' h
 have c:=@H.text_ok gl (d+1) (by omega) b hb
 have ha:=H.bytes_all b
 have hl:(bytesAV b).length=16:=by rw[bytesAV_length];exact hb
 rw[call_go (fd:=fd129) rfl]
 generalize bytesAV b=z at *
 simp(disch:=((fail_if_success (intro _));omega)) only[go_sem,simprocAttr,↓reduceIte,↓Nat.reduceEqDiff,xx,fd129,m129,c,ha,hl]
abbrev sB :Sh:=.ar 16 .sc
abbrev bAV (b:List UInt8):AV:=.agg (bytesAV b)
theorem b16 {b:List UInt8}(h:b.length=16):(bytesAV b).length=16:=by rw[bytesAV_length];exact h
theorem b16t {b:List UInt8}(h:b.length=16):List.take 16 (bytesAV b)=bytesAV b:=List.take_of_length_le (by rw[b16 h];exact Nat.le_refl _)
structure Le where
 site:Int
 ep:Int
 til:Int
 ser:Int
 sgn:List UInt8
abbrev leAV (x:Le):AV:=.agg [i64 x.site,i64 x.ep,i64 x.til,i64 x.ser,bAV x.sgn]
structure LeOk (x:Le):Prop where
 i:Few64 [x.site,x.ep,x.til,x.ser]
 s:x.sgn.length=16
def leP (x:Le):List (List UInt8):=[zints [x.site,x.ep,x.til,x.ser]]
theorem leP_at (h:5<=n)(x:Le)(hx:LeOk x):call gl tab n 77 [leAV x] []=some (.lst false .sc (strsAV (leP x)),[],[]):=by
 obtain⟨d,rfl⟩:=Nat.exists_eq_add_of_le' h
 have c:=@ints_at gl (d+4) (by omega) false _ hx.i
 have b1:=b16 hx.s
 have b2:=H.bytes_all x.sgn
 simp only[nsI,List.map_cons,List.map_nil]at c
 unfold leP
 simp only[strsAV,List.map_cons,List.map_nil]
 generalize zints _=z at *
 rw[call_go (fd:=fd77) rfl]
 simp(disch:=((fail_if_success (intro _));omega)) only[go_sem,simprocAttr,↓reduceIte,↓Nat.reduceEqDiff,xx,fd77,m77,c,hx.s,b2]
theorem rleP_at (h:5<=n)(x:Le)(hx:LeOk x):call gl tab n 84 [leAV x] []=some (.lst false .sc (strsAV (leP x)),[],[]):=by
 obtain⟨d,rfl⟩:=Nat.exists_eq_add_of_le' h
 have c:=@rints_at gl (d+4) (by omega) false _ hx.i
 have b1:=b16 hx.s
 have b2:=H.bytes_all x.sgn
 simp only[nsI,List.map_cons,List.map_nil]at c
 unfold leP
 simp only[strsAV,List.map_cons,List.map_nil]
 generalize zints _=z at *
 rw[call_go (fd:=fd84) rfl]
 simp(disch:=((fail_if_success (intro _));omega)) only[go_sem,simprocAttr,↓reduceIte,↓Nat.reduceEqDiff,xx,fd84,m84,c,hx.s,b2]
structure Hd where
 site:Int
 size:Int
 root:List UInt8
 lo:Int
 hi:Int
 ser:Int
 sgn:List UInt8
abbrev hdAV (x:Hd):AV:=.agg [i64 x.site,i64 x.size,bAV x.root,.agg [i64 x.lo,i64 x.hi],i64 x.ser,bAV x.sgn]
structure HdOk (x:Hd):Prop where
 i:Few64 [x.site,x.size,x.lo,x.hi,x.ser]
 r:x.root.length=16
 s:x.sgn.length=16
def hdP (x:Hd):List (List UInt8):=[zints [x.site,x.size,x.lo,x.hi,x.ser],x.root]
theorem hdP_at (h:5<=n)(x:Hd)(hx:HdOk x):call gl tab n 111 [hdAV x] []=some (.lst false .sc (strsAV (hdP x)),[],[]):=by
 obtain⟨d,rfl⟩:=Nat.exists_eq_add_of_le' h
 have c:=@ints_at gl (d+4) (by omega) false _ hx.i
 have b1:=b16 hx.s
 have b2:=H.bytes_all x.sgn
 have b3:=b16 hx.r
 have b4:=H.bytes_all x.root
 have b5:=b16t hx.r
 simp only[nsI,List.map_cons,List.map_nil]at c
 unfold hdP
 simp only[strsAV,List.map_cons,List.map_nil]
 generalize zints _=z at *
 rw[call_go (fd:=fd111) rfl]
 simp(implicitDefEqProofs:=false) (disch:=((fail_if_success (intro _));omega)) only[go_sem,simprocAttr,↓reduceIte,↓Nat.reduceEqDiff,xx,fd111,m111,c,hx.s,b2,hx.r,b4,b5]
structure Sp where
 addr:List UInt8
 var:List UInt8
 st:Int
 sz:Int
 body:List UInt8
 tags:List UInt8
 lo:Int
 hi:Int
 gate:Int
 ser:Int
 sgn:List UInt8
abbrev spAV (x:Sp):AV:=.agg [.str x.addr,.str x.var,i64 x.st,i64 x.sz,bAV x.body,.str x.tags,.agg [i64 x.lo,i64 x.hi],i64 x.gate,i64 x.ser,bAV x.sgn]
structure SpOk (x:Sp):Prop where
 i:Few64 [x.st,x.sz,x.lo,x.hi,x.gate,x.ser]
 r:x.body.length=16
 s:x.sgn.length=16
def spP (x:Sp):List (List UInt8):=[x.addr,x.var,zints [x.st,x.sz,x.lo,x.hi,x.gate,x.ser],x.body,x.tags]
theorem spP_at (h:5<=n)(x:Sp)(hx:SpOk x):call gl tab n 76 [spAV x] []=some (.lst false .sc (strsAV (spP x)),[],[]):=by
 obtain⟨d,rfl⟩:=Nat.exists_eq_add_of_le' h
 have c:=@ints_at gl (d+4) (by omega) false _ hx.i
 have b1:=b16 hx.s
 have b2:=H.bytes_all x.sgn
 have b3:=b16 hx.r
 have b4:=H.bytes_all x.body
 have b5:=b16t hx.r
 simp only[nsI,List.map_cons,List.map_nil]at c
 unfold spP
 simp only[strsAV,List.map_cons,List.map_nil]
 generalize zints _=z at *
 rw[call_go (fd:=fd76) rfl]
 simp(implicitDefEqProofs:=false) (disch:=((fail_if_success (intro _));omega)) only[go_sem,simprocAttr,↓reduceIte,↓Nat.reduceEqDiff,xx,fd76,m76,c,hx.s,b2,hx.r,b4,b5]
theorem rspP_at (h:5<=n)(x:Sp)(hx:SpOk x):call gl tab n 83 [spAV x] []=some (.lst false .sc (strsAV (spP x)),[],[]):=by
 obtain⟨d,rfl⟩:=Nat.exists_eq_add_of_le' h
 have c:=@rints_at gl (d+4) (by omega) false _ hx.i
 have c2:=@rdig_at gl (d+4) (by omega) x.body hx.r
 have b1:=b16 hx.s
 have b2:=H.bytes_all x.sgn
 have b3:=b16 hx.r
 have b4:=H.bytes_all x.body
 simp only[nsI,List.map_cons,List.map_nil]at c
 unfold spP
 simp only[strsAV,List.map_cons,List.map_nil]
 generalize zints _=z at *
 rw[call_go (fd:=fd83) rfl]
 simp(implicitDefEqProofs:=false) (disch:=((fail_if_success (intro _));omega)) only[go_sem,simprocAttr,↓reduceIte,↓Nat.reduceEqDiff,xx,fd83,m83,c,c2,hx.s,b2,hx.r,b4]
end Go.Proofs.S44
namespace Go.Proofs.S44
open Go Go.Ev Go.Proofs
open Go.Proofs.S44.H (strsAV strsAV_length strsAV_get Sml GlK GlR zints Few64 nsI)
variable {gl :Gl} {n:Nat}
theorem zints_le {l:List Int}(h:l.length<=1000):(zints l).length<=1048576:=by have:=@H.zints_len l;omega
structure KOk (k:Ky):Prop where
 p:R64 k.p
 s:R64 k.s
 k:k.k.length<=1048576
theorem VK.ok {k:Ky}(h:VK k):KOk k:=⟨R64.of h.p,R64.of h.s,by have:=h.k;omega⟩
theorem few_cons {a:Int}{l:List Int}(h:Few64 (a::l)):R64 a/\Few64 l:=⟨h.2 a (by simp),by have:=h.1;simp at this;omega,fun x hx=>h.2 x (by simp[hx])⟩
theorem few_mk {a:Int}{l:List Int}(h1:R64 a)(h2:Few64 l)(h3:l.length<1000):Few64 (a::l):=⟨by simp;omega,fun x hx=>by
 simp only[List.mem_cons]at hx
 rcases hx with rfl|hx
 . exact h1
 . exact h2.2 x hx⟩
theorem few_nil :Few64 []:=⟨by simp,fun x hx=>by simp at hx⟩
def hdK (k:Ky)(x:Hd):Hd:=⟨x.site,x.size,x.root,x.lo,x.hi,k.s,x.sgn⟩
def hdS (k:Ky)(x:Hd):Hd:=⟨x.site,x.size,x.root,x.lo,x.hi,k.s,sea k.k 44 (hdP (hdK k x))⟩
theorem hdK_ok {k:Ky}(hk:KOk k){x:Hd}(h:HdOk x):HdOk (hdK k x):=by
 obtain⟨a1,h1⟩:=few_cons h.i
 obtain⟨a2,h2⟩:=few_cons h1
 obtain⟨a3,h3⟩:=few_cons h2
 obtain⟨a4,h4⟩:=few_cons h3
 exact⟨few_mk a1 (few_mk a2 (few_mk a3 (few_mk a4 (few_mk hk.s few_nil (by simp)) (by simp)) (by simp)) (by simp)) (by simp),h.r,h.s⟩
theorem hdS_ok {k:Ky}(hk:KOk k){x:Hd}(h:HdOk x):HdOk (hdS k x):=⟨(hdK_ok hk h).i,h.r,sea_len _ _ _⟩
theorem hdP_pts {x:Hd}(h:HdOk x):Pts (hdP x):=⟨by simp[hdP],fun y hy=>by
 simp only[hdP,List.mem_cons,List.not_mem_nil,or_false]at hy
 rcases hy with rfl|rfl
 . exact zints_le (by simp)
 . rw[h.r];decide⟩
theorem hdSd_at [Nonempty (GlK gl)](h:9<=n){k:Ky}(hk:KOk k)(tag:Int)(x:Hd)(hx:HdOk x):call gl tab n 110 [ky k,i64 tag,hdAV x,.fn 111 []] []=some (.agg (sAV k.k tag (hdP x)),[],[]):=by
 obtain⟨d,rfl⟩:=Nat.exists_eq_add_of_le' h
 have c1:=@hdP_at gl (d+8) (by omega) x hx
 have c2:=@make_at gl (d+8) _ (by omega) k hk.k tag false (hdP x) (hdP_pts hx)
 have q0:=H.bytes_all x.sgn
 have q1:=H.bytes_all x.root
 have d1:=sAV_len k.k tag (hdP x)
 have d2:=sAV_all k.k tag (hdP x)
 have d3:=sAV_pl k.k tag (hdP x)
 generalize sAV k.k tag (hdP x)=z at *
 generalize strsAV (hdP x)=w at *
 rw[call_go (fd:=fd110) rfl]
 simp(implicitDefEqProofs:=false) (disch:=((fail_if_success (intro _));omega)) only[go_sem,simprocAttr,↓reduceIte,↓Nat.reduceEqDiff,xx,fd110,m110,c1,c2,hx.s,hx.r,q0,q1,d1,d2,d3,↓out16_eq,H.out16_len,H.out16_all,H.out16_pl]
theorem hdS_at [Nonempty (GlK gl)](h:10<=n){k:Ky}(hk:KOk k)(x:Hd)(hx:HdOk x):call gl tab n 61 [ky k,hdAV x] []=some (hdAV (hdS k x),[],[]):=by
 obtain⟨d,rfl⟩:=Nat.exists_eq_add_of_le' h
 have c1:=@hdSd_at gl (d+9) _ (by omega) k hk 44 _ (hdK_ok hk hx)
 have q0:=H.bytes_all x.sgn
 have q1:=H.bytes_all x.root
 have d1:=sAV_len k.k 44 (hdP (hdK k x))
 have d2:=sAV_all k.k 44 (hdP (hdK k x))
 have d3:=sAV_pl k.k 44 (hdP (hdK k x))
 have e1:bytesAV (sea k.k 44 (hdP (hdK k x)))=sAV k.k 44 (hdP (hdK k x)):=rfl
 unfold hdS
 simp only[hdAV,hdK,bAV,e1]at c1 d1 d2 d3 ⊢
 simp only[hdK,bAV]at e1
 rw[e1]
 generalize sAV k.k 44 _=z at *
 rw[call_go (fd:=fd61) rfl]
 simp(implicitDefEqProofs:=false) (disch:=((fail_if_success (intro _));omega)) only[go_sem,simprocAttr,↓reduceIte,↓Nat.reduceEqDiff,xx,fd61,m61,c1,hx.s,hx.r,q0,q1,d1,d2,d3,↓out16_eq,H.out16_len,H.out16_all,H.out16_pl]
end Go.Proofs.S44
namespace Go.Proofs.S44
open Go Go.Ev Go.Proofs
open Go.Proofs.S44.H (strsAV strsAV_length strsAV_get Sml GlK GlR zints Few64 nsI)
variable {gl :Gl} {n:Nat}
def isSite (a:Int):Bool:=decide (0<=a/\a<64)
theorem site_at (h:1<=n)(a:Int):call gl tab n 117 [i64 a] []=some (.bool (isSite a),[],[]):=by
 obtain⟨d,rfl⟩:=Nat.exists_eq_add_of_le' h
 rw[call_go (fd:=fd117) rfl]
 unfold isSite
 by_cases h1:0<=a
 . by_cases h2:a<64
   . rw[decide_eq_true ⟨h1,h2⟩];simp(disch:=((fail_if_success (intro _));omega)) only[go_sem,simprocAttr,↓reduceIte,↓Nat.reduceEqDiff,xx,fd117,m117]
   . rw[decide_eq_false fun h=>h2 h.2];simp(disch:=((fail_if_success (intro _));omega)) only[go_sem,simprocAttr,↓reduceIte,↓Nat.reduceEqDiff,xx,fd117,m117]
 . rw[decide_eq_false fun h=>h1 h.1];simp(disch:=((fail_if_success (intro _));omega)) only[go_sem,simprocAttr,↓reduceIte,↓Nat.reduceEqDiff,xx,fd117,m117]
def hdC (l:List Ky)(x:Hd):Int:=if isSite x.site=true then ckE l (1000+x.site) x.ser 44 (hdP x) x.sgn x.lo x.hi else 1
theorem SpOk.g {x:Sp}(h:SpOk x):R64 x.gate/\R64 x.ser:=⟨h.i.2 _ (by simp),h.i.2 _ (by simp)⟩
theorem LeOk.g {x:Le}(h:LeOk x):R64 x.ser:=h.i.2 _ (by simp)
theorem LeOk.u {x:Le}(h:LeOk x):R64 x.til:=h.i.2 _ (by simp)
theorem HdOk.g {x:Hd}(h:HdOk x):R64 x.ser:=h.i.2 _ (by simp)
section
variable {f :Bool} {m:Sh} {l:List Ky}
theorem hdC_at [Nonempty (GlK gl)](h:11<=n)(hm:Mk l m)(hv:VR l)(x:Hd)(hx:HdOk x):call gl tab n 70 [.lst f m (ks l),hdAV x] []=some (i64 (hdC l x),[],[]):=by
 obtain⟨d,rfl⟩:=Nat.exists_eq_add_of_le' h
 have c0:=@site_at gl (d+10) (by omega) x.site
 have q0:=H.bytes_all x.sgn
 have q1:=H.bytes_all x.root
 unfold hdC
 by_cases hsi:isSite x.site=true
 . rw[hsi]at c0
   rw[if_pos hsi]
   simp only[isSite,decide_eq_true_eq]at hsi
   have c1:=@hdP_at gl (d+10) (by omega) x hx
   have c2:=@check_at gl (d+10) f m l (1000+x.site) _ _ _ false _ (by omega) hm hv (by unfold R64;omega) hx.g 44 (hdP_pts hx) hx.s x.lo x.hi
   generalize ckE _ _ _ _ _ _ _ _=z at *
   generalize strsAV (hdP x)=w at *
   rw[call_go (fd:=fd70) rfl]
   simp(implicitDefEqProofs:=false) (disch:=((fail_if_success (intro _));omega)) only[go_sem,simprocAttr,↓reduceIte,↓Nat.reduceEqDiff,xx,fd70,m70,c0,c1,c2,hx.s,hx.r,q0,q1]
 . rw[if_neg hsi]
   rw[Bool.not_eq_true]at hsi
   rw[hsi]at c0
   rw[call_go (fd:=fd70) rfl]
   simp(implicitDefEqProofs:=false) (disch:=((fail_if_success (intro _));omega)) only[go_sem,simprocAttr,↓reduceIte,↓Nat.reduceEqDiff,xx,fd70,m70,c0,hx.s,hx.r,q0,q1]
end
end Go.Proofs.S44
namespace Go.Proofs.S44.L
open Go Go.Ev Go.Proofs Go.Proofs.S44
open Go.Proofs.S44.H (strsAV strsAV_length strsAV_get Sml GlK GlR zints Few64 nsI zint zint_len encB encB_len bytesAV_append)
variable {gl :Gl} {n:Nat}
def zstrs (l:List (List UInt8)):List UInt8:=zint l.length++(l.map encB).flatten
def spre (l:List (List UInt8))(i:Nat):List UInt8:=zint l.length++((l.take i).map encB).flatten
theorem spre_0 (l:List (List UInt8)):spre l 0=zint l.length:=by simp[spre]
theorem spre_all (l:List (List UInt8)):spre l l.length=zstrs l:=by simp[spre,zstrs]
theorem spre_s {l:List (List UInt8)}{i:Nat}(hi:i<l.length):spre l (i+1)=spre l i++encB l[i]:=by
 unfold spre;rw[List.take_succ_eq_append_getElem hi,List.map_append,List.flatten_append,<-List.append_assoc];simp
theorem spre_len {l:List (List UInt8)}(h:Sml l):∀{i:Nat},i<=l.length->(spre l i).length<=1048586*(i+1)
 | 0,_=>by rw[spre_0];have:=zint_len l.length;omega
 | i+1,hi=>by
   have h1:=spre_len h (i:=i) (by omega)
   have h2:=encB_len l[i]
   have h3:=h.2 l[i] (List.getElem_mem (by omega))
   rw[spre_s (by omega),List.length_append];omega
def LwS :MC:=match m130 with| .seq _ (.seq _ (.seq (.seq _ (.block _ (.loop _ b))) _))=>b|_=>.skip
def SwS (f:Bool)(l:List (List UInt8))(i:Nat):St :=
 ⟨[.set 13 (.int .i64 i),.set 12 (.int .i64 l.length),.set 11 (.lst f .sc (strsAV l)),.set 5 (.sl 5005 [] 0 (spre l i).length),.set 1 (.fn 131 [])],[(5005,.grow .sc (bytesAV (spre l i)))]⟩
theorem strings_ok (h:4<=n)(f:Bool)(l:List (List UInt8))(hl:Sml l):call gl tab n 86 [.lst f .sc (strsAV l)] []=some (.sl 20000 [] 0 (zstrs l).length,[],[.grow .sc (bytesAV (zstrs l))]):=by
 obtain⟨d,rfl⟩:=Nat.exists_eq_add_of_le' h
 have h1:=hl.1
 have hs:∀i,i<l.length->contK [.slot 1,.own 5 5005 .sc,.slot 11,.slot 12,.slot 13] (evC gl (call gl tab (d+2)) LwS (SwS f l i))=some (SwS f l (i+1)):=fun i hi=>by
  have hx:=strsAV_get hi
  have h3:=hl.2 l[i] (List.getElem_mem (by omega))
  have c:=H.bytes48_ok (gl:=gl) d l[i] (by omega)
  have hz:=encB_len l[i]
  have hp:=spre_len hl (i:=i) (by omega)
  have hL:(spre l i).length+(encB l[i]).length<=LIM:=by unfold LIM;omega
  rw[SwS,SwS,spre_s hi,bytesAV_append,List.length_append]
  generalize spre l i=p at *
  generalize encB l[i]=q at *
  simp(disch:=((fail_if_success (intro _));omega)) only[go_sem,simprocAttr,↓reduceIte,↓Nat.reduceEqDiff,xx,LwS,m130,hx,strsAV_length,c,bytesAV_length,hL]
 simp only[LwS,m130]at hs
 have c0:=H.int53_ok (gl:=gl) (d+1) (l.length:Int) (by omega)
 have e2:=bytesAV_length (zstrs l)
 have cl:call gl tab (d+3) 130 [.lst f .sc (strsAV l),.fn 131 []] []=some (.sl 20000 [] 0 (zstrs l).length,[],[.grow .sc (bytesAV (zstrs l))]):=by
  rw[call_go (fd:=fd130) rfl]
  simp(disch:=((fail_if_success (intro _));omega)) only[go_sem,simprocAttr,↓reduceIte,↓Nat.reduceEqDiff,xx,fd130,m130,strsAV_length,c0]
  rw[iter_to (SwS f l) l.length (by unfold LF;omega)]
  . rw[SwS,spre_all]
    simp(disch:=((fail_if_success (intro _));omega)) only[go_sem,simprocAttr,↓reduceIte,↓Nat.reduceEqDiff,xx,strsAV_length,bytesAV_length]
  . simp(disch:=((fail_if_success (intro _));omega)) only[go_sem,simprocAttr,↓reduceIte,↓Nat.reduceEqDiff,xx,SwS,spre_0,strsAV_length]
  . exact hs
  . rw[SwS,spre_all]
    simp(disch:=((fail_if_success (intro _));omega)) only[go_sem,simprocAttr,↓reduceIte,↓Nat.reduceEqDiff,xx,strsAV_length,bytesAV_length]
 rw[call_go (fd:=fd86) rfl]
 generalize zstrs l=z at *
 simp(disch:=((fail_if_success (intro _));omega)) only[go_sem,simprocAttr,↓reduceIte,↓Nat.reduceEqDiff,xx,fd86,m86,cl,e2,H.noImms_bytesAV]
def LrS :MC:=match m126 with| .seq _ (.seq _ (.seq (.seq _ (.block _ (.loop _ b))) _))=>b|_=>.skip
def SrS (f:Bool)(l:List (List UInt8))(i:Nat):St :=
 ⟨[.set 4 (.int .i64 i),.set 3 (.sl 5003 [] 0 (spre l i).length),.set 0 (.lst f .sc (strsAV l))],[(5003,.grow .sc (bytesAV (spre l i)))]⟩
theorem rstrings_ok (h:3<=n)(f:Bool)(l:List (List UInt8))(hl:Sml l):call gl tab n 126 [.lst f .sc (strsAV l)] []=some (.sl 20000 [] 0 (zstrs l).length,[],[.grow .sc (bytesAV (zstrs l))]):=by
 obtain⟨d,rfl⟩:=Nat.exists_eq_add_of_le' h
 have h1:=hl.1
 have hs:∀i,i<l.length->contK [.slot 0,.own 3 5003 .sc,.slot 4] (evC gl (call gl tab (d+2)) LrS (SrS f l i))=some (SrS f l (i+1)):=fun i hi=>by
  have hx:=strsAV_get hi
  have h3:=hl.2 l[i] (List.getElem_mem (by omega))
  have c:=H.bytes50_ok (gl:=gl) d l[i] (by omega)
  have hz:=encB_len l[i]
  have hp:=spre_len hl (i:=i) (by omega)
  have hL:(spre l i).length+(encB l[i]).length<=LIM:=by unfold LIM;omega
  rw[SrS,SrS,spre_s hi,bytesAV_append,List.length_append]
  generalize spre l i=p at *
  generalize encB l[i]=q at *
  simp(disch:=((fail_if_success (intro _));omega)) only[go_sem,simprocAttr,↓reduceIte,↓Nat.reduceEqDiff,xx,LrS,m126,hx,strsAV_length,c,bytesAV_length,hL]
 simp only[LrS,m126]at hs
 have c0:=H.int54_ok (gl:=gl) (d+1) (l.length:Int) (by omega)
 rw[call_go (fd:=fd126) rfl]
 simp(disch:=((fail_if_success (intro _));omega)) only[go_sem,simprocAttr,↓reduceIte,↓Nat.reduceEqDiff,xx,fd126,m126,strsAV_length,c0]
 rw[iter_to (SrS f l) l.length (by unfold LF;omega)]
 . rw[SrS,spre_all]
   simp(disch:=((fail_if_success (intro _));omega)) only[go_sem,simprocAttr,↓reduceIte,↓Nat.reduceEqDiff,xx,strsAV_length,bytesAV_length]
 . simp(disch:=((fail_if_success (intro _));omega)) only[go_sem,simprocAttr,↓reduceIte,↓Nat.reduceEqDiff,xx,SrS,spre_0,strsAV_length]
 . exact hs
 . rw[SrS,spre_all]
   simp(disch:=((fail_if_success (intro _));omega)) only[go_sem,simprocAttr,↓reduceIte,↓Nat.reduceEqDiff,xx,strsAV_length,bytesAV_length]
theorem list_at (h:4<=n)(f:Bool)(l:List (List UInt8))(hl:Sml l):call gl tab n 80 [.lst f .sc (strsAV l)] []=some (.str (zstrs l),[],[]):=by
 obtain⟨d,rfl⟩:=Nat.exists_eq_add_of_le' h
 have c:=@rstrings_ok gl (d+3) (by omega) f l hl
 have t:List.take (zstrs l).length (bytesAV (zstrs l))=bytesAV (zstrs l):=List.take_of_length_le (by rw[bytesAV_length];exact Nat.le_refl _)
 rw[call_go (fd:=fd80) rfl]
 generalize zstrs l=z at *
 simp(disch:=((fail_if_success (intro _));omega)) only[go_sem,simprocAttr,↓reduceIte,↓Nat.reduceEqDiff,xx,fd80,m80,c,bytesAV_length,t]
theorem int_at (h:4<=n)(f:Bool)(l:List Int)(hl:Few64 l):call gl tab n 81 [.lst f .sc (nsI l)] []=some (.str (zints l),[],[]):=by
 obtain⟨d,rfl⟩:=Nat.exists_eq_add_of_le' h
 have c:=@H.rints_ok gl (d+3) (by omega) f l hl
 have t:List.take (zints l).length (bytesAV (zints l))=bytesAV (zints l):=List.take_of_length_le (by rw[bytesAV_length];exact Nat.le_refl _)
 rw[call_go (fd:=fd81) rfl]
 generalize zints l=z at *
 simp(disch:=((fail_if_success (intro _));omega)) only[go_sem,simprocAttr,↓reduceIte,↓Nat.reduceEqDiff,xx,fd81,m81,c,bytesAV_length,t]
end Go.Proofs.S44.L
