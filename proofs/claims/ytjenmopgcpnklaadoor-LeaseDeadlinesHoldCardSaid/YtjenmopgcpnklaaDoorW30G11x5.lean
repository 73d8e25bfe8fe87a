/-
  Lists of integers as bytes. No condition.
-/
import Derived.Test.YtjenmopgcpnklaaDoorW30G8x5
import Derived.Test.YtjenmopgcpnklaaDoorW30G10x5
set_option linter.unusedVariables false
set_option linter.unusedSimpArgs false
set_option linter.unusedSectionVars false
namespace Go.Proofs.S30.H
open Go Go.Ev Go.Proofs Go.Proofs.S30
variable {gl :Gl}
def nsI (l:List Int):List AV:=l.map fun n=>.int .i64 n
theorem nsI_length (l:List Int):(nsI l).length=l.length:=by simp[nsI]
theorem nsI_get {l:List Int}{i:Nat}(h:i<l.length):(nsI l)[i]? =some (.int .i64 l[i]):=by simp[nsI,h]
def Few64 (l:List Int):Prop:=l.length<=1000/\∀x∈l,-9223372036854775808<=x/\x<=9223372036854775807
theorem few_get {l:List Int}(h:Few64 l){i:Nat}(hi:i<l.length):-9223372036854775808<=l[i]/\l[i]<=9223372036854775807:=h.2 _ (List.getElem_mem hi)
def zints (l:List Int):List UInt8:=zint l.length++(l.map zint).flatten
def zpre (l:List Int)(i:Nat):List UInt8:=zint l.length++((l.take i).map zint).flatten
theorem zpre_0 (l:List Int):zpre l 0=zint l.length:=by simp[zpre]
theorem zpre_all (l:List Int):zpre l l.length=zints l:=by simp[zpre,zints]
theorem zpre_s {l:List Int}{i:Nat}(hi:i<l.length):zpre l (i+1)=zpre l i++zint l[i]:=by
 unfold zpre;rw[List.take_succ_eq_append_getElem hi,List.map_append,List.flatten_append,<-List.append_assoc];simp
theorem zpre_len {l:List Int}:∀{i:Nat},i<=l.length->(zpre l i).length<=10*(i+1)
 | 0,_=>by rw[zpre_0];have:=zint_len l.length;omega
 | i+1,h=>by
   have h1:=zpre_len (l:=l) (i:=i) (by omega)
   have h2:=zint_len l[i]
   rw[zpre_s (by omega),List.length_append];omega
theorem zints_len {l:List Int}:(zints l).length<=10*(l.length+1):=by rw[<-zpre_all];exact zpre_len (Nat.le_refl _)
def LwI :MC:=match m92 with| .seq _ (.seq _ (.seq (.seq _ (.block _ (.loop _ b))) _))=>b|_=>.skip
def SwI (f:Bool)(l:List Int)(i:Nat):St :=
 ⟨[.set 13 (.int .i64 i),.set 12 (.int .i64 l.length),.set 11 (.lst f .sc (nsI l)),.set 5 (.sl 5005 [] 0 (zpre l i).length),.set 1 (.fn 93 [])],[(5005,.grow .sc (bytesAV (zpre l i)))]⟩
theorem ints_ok {n:Nat}(h:3<=n)(f:Bool)(l:List Int)(hl:Few64 l):call gl tab n 81 [.lst f .sc (nsI l)] []=some (.sl 20000 [] 0 (zints l).length,[],[.grow .sc (bytesAV (zints l))]):=by
 obtain⟨d,rfl⟩:=Nat.exists_eq_add_of_le' h
 have h1:=hl.1
 have hs:∀i,i<l.length->contK [.slot 1,.own 5 5005 .sc,.slot 11,.slot 12,.slot 13] (evC gl (call gl tab (d+1)) LwI (SwI f l i))=some (SwI f l (i+1)):=fun i hi=>by
  have hx:=nsI_get hi
  have c:=int53_ok (gl:=gl) d l[i] (few_get hl hi)
  have hz:=zint_len l[i]
  have hp:=zpre_len (l:=l) (i:=i) (by omega)
  have hL:(zpre l i).length+(zint l[i]).length<=LIM:=by unfold LIM;omega
  rw[SwI,SwI,zpre_s hi,bytesAV_append,List.length_append]
  generalize zpre l i=p at *
  generalize zint l[i]=q at *
  simp(disch:=((fail_if_success (intro _));omega)) only[go_sem,simprocAttr,↓reduceIte,↓Nat.reduceEqDiff,xx,LwI,m92,hx,nsI_length,c,bytesAV_length,hL]
 simp only[LwI,m92]at hs
 have c0:=int53_ok (gl:=gl) d (l.length:Int) (by omega)
 have e2:=bytesAV_length (zints l)
 have cl:call gl tab (d+2) 92 [.lst f .sc (nsI l),.fn 93 []] []=some (.sl 20000 [] 0 (zints l).length,[],[.grow .sc (bytesAV (zints l))]):=by
  rw[call_go (fd:=fd92) rfl]
  simp(disch:=((fail_if_success (intro _));omega)) only[go_sem,simprocAttr,↓reduceIte,↓Nat.reduceEqDiff,xx,fd92,m92,nsI_length,c0]
  rw[iter_to (SwI f l) l.length (by unfold LF;omega)]
  . rw[SwI,zpre_all]
    simp(disch:=((fail_if_success (intro _));omega)) only[go_sem,simprocAttr,↓reduceIte,↓Nat.reduceEqDiff,xx,nsI_length,bytesAV_length]
  . simp(disch:=((fail_if_success (intro _));omega)) only[go_sem,simprocAttr,↓reduceIte,↓Nat.reduceEqDiff,xx,SwI,zpre_0,nsI_length]
  . exact hs
  . rw[SwI,zpre_all]
    simp(disch:=((fail_if_success (intro _));omega)) only[go_sem,simprocAttr,↓reduceIte,↓Nat.reduceEqDiff,xx,nsI_length,bytesAV_length]
 rw[call_go (fd:=fd81) rfl]
 generalize zints l=z at *
 simp(disch:=((fail_if_success (intro _));omega)) only[go_sem,simprocAttr,↓reduceIte,↓Nat.reduceEqDiff,xx,fd81,m81,cl,e2,noImms_bytesAV]
def LrI :MC:=match m84 with| .seq _ (.seq _ (.seq (.seq _ (.block _ (.loop _ b))) _))=>b|_=>.skip
def SrI (f:Bool)(l:List Int)(i:Nat):St :=
 ⟨[.set 4 (.int .i64 i),.set 3 (.sl 5003 [] 0 (zpre l i).length),.set 0 (.lst f .sc (nsI l))],[(5003,.grow .sc (bytesAV (zpre l i)))]⟩
theorem rints_ok {n:Nat}(h:2<=n)(f:Bool)(l:List Int)(hl:Few64 l):call gl tab n 84 [.lst f .sc (nsI l)] []=some (.sl 20000 [] 0 (zints l).length,[],[.grow .sc (bytesAV (zints l))]):=by
 obtain⟨d,rfl⟩:=Nat.exists_eq_add_of_le' h
 have h1:=hl.1
 have hs:∀i,i<l.length->contK [.slot 0,.own 3 5003 .sc,.slot 4] (evC gl (call gl tab (d+1)) LrI (SrI f l i))=some (SrI f l (i+1)):=fun i hi=>by
  have hx:=nsI_get hi
  have c:=int54_ok (gl:=gl) d l[i] (few_get hl hi)
  have hz:=zint_len l[i]
  have hp:=zpre_len (l:=l) (i:=i) (by omega)
  have hL:(zpre l i).length+(zint l[i]).length<=LIM:=by unfold LIM;omega
  rw[SrI,SrI,zpre_s hi,bytesAV_append,List.length_append]
  generalize zpre l i=p at *
  generalize zint l[i]=q at *
  simp(disch:=((fail_if_success (intro _));omega)) only[go_sem,simprocAttr,↓reduceIte,↓Nat.reduceEqDiff,xx,LrI,m84,hx,nsI_length,c,bytesAV_length,hL]
 simp only[LrI,m84]at hs
 have c0:=int54_ok (gl:=gl) d (l.length:Int) (by omega)
 rw[call_go (fd:=fd84) rfl]
 simp(disch:=((fail_if_success (intro _));omega)) only[go_sem,simprocAttr,↓reduceIte,↓Nat.reduceEqDiff,xx,fd84,m84,nsI_length,c0]
 rw[iter_to (SrI f l) l.length (by unfold LF;omega)]
 . rw[SrI,zpre_all]
   simp(disch:=((fail_if_success (intro _));omega)) only[go_sem,simprocAttr,↓reduceIte,↓Nat.reduceEqDiff,xx,nsI_length,bytesAV_length]
 . simp(disch:=((fail_if_success (intro _));omega)) only[go_sem,simprocAttr,↓reduceIte,↓Nat.reduceEqDiff,xx,SrI,zpre_0,nsI_length]
 . exact hs
 . rw[SrI,zpre_all]
   simp(disch:=((fail_if_success (intro _));omega)) only[go_sem,simprocAttr,↓reduceIte,↓Nat.reduceEqDiff,xx,nsI_length,bytesAV_length]
end Go.Proofs.S30.H
namespace Go.Proofs.S30
open Go Go.Ev Go.Proofs
open Go.Proofs.S30.H (strsAV strsAV_length strsAV_get Sml GlK GlR zints Few64 nsI)
variable {gl :Gl} {n:Nat}
theorem ints_at (h:4<=n)(f:Bool)(l:List Int)(hl:Few64 l):call gl tab n 70 [.lst f .sc (nsI l)] []=some (.str (zints l),[],[]):=by
 obtain⟨d,rfl⟩:=Nat.exists_eq_add_of_le' h
 have c:=@H.ints_ok gl (d+3) (by omega) f l hl
 have t:List.take (zints l).length (bytesAV (zints l))=bytesAV (zints l):=List.take_of_length_le (by rw[bytesAV_length];exact Nat.le_refl _)
 rw[call_go (fd:=fd70) rfl]
 generalize zints l=z at *
 simp(disch:=((fail_if_success (intro _));omega)) only[go_sem,simprocAttr,↓reduceIte,↓Nat.reduceEqDiff,xx,fd70,m70,c,bytesAV_length,t]
theorem rints_at (h:4<=n)(f:Bool)(l:List Int)(hl:Few64 l):call gl tab n 73 [.lst f .sc (nsI l)] []=some (.str (zints l),[],[]):=by
 obtain⟨d,rfl⟩:=Nat.exists_eq_add_of_le' h
 have c:=@H.rints_ok gl (d+3) (by omega) f l hl
 have t:List.take (zints l).length (bytesAV (zints l))=bytesAV (zints l):=List.take_of_length_le (by rw[bytesAV_length];exact Nat.le_refl _)
 rw[call_go (fd:=fd73) rfl]
 generalize zints l=z at *
 simp(disch:=((fail_if_success (intro _));omega)) only[go_sem,simprocAttr,↓reduceIte,↓Nat.reduceEqDiff,xx,fd73,m73,c,bytesAV_length,t]
abbrev sB :Sh:=.ar 16 .sc
abbrev bAV (b:List UInt8):AV:=.agg (bytesAV b)
theorem b16 {b:List UInt8}(h:b.length=16):(bytesAV b).length=16:=by rw[bytesAV_length];exact h
theorem b16t {b:List UInt8}(h:b.length=16):List.take 16 (bytesAV b)=bytesAV b:=List.take_of_length_le (by rw[b16 h];exact Nat.le_refl _)
structure Le where
 site:Int
 ep:Int
 til:Int
 ser:Int
 sgn:List UInt8
abbrev leAV (x:Le):AV:=.agg [i64 x.site,i64 x.ep,i64 x.til,i64 x.ser,bAV x.sgn]
structure LeOk (x:Le):Prop where
 i:Few64 [x.site,x.ep,x.til,x.ser]
 s:x.sgn.length=16
def leP (x:Le):List (List UInt8):=[zints [x.site,x.ep,x.til,x.ser]]
theorem leP_at (h:5<=n)(x:Le)(hx:LeOk x):call gl tab n 56 [leAV x] []=some (.lst false .sc (strsAV (leP x)),[],[]):=by
 obtain⟨d,rfl⟩:=Nat.exists_eq_add_of_le' h
 have c:=@ints_at gl (d+4) (by omega) false _ hx.i
 have b1:=b16 hx.s
 have b2:=H.bytes_all x.sgn
 simp only[nsI,List.map_cons,List.map_nil]at c
 unfold leP
 simp only[strsAV,List.map_cons,List.map_nil]
 generalize zints _=z at *
 rw[call_go (fd:=fd56) rfl]
 simp(disch:=((fail_if_success (intro _));omega)) only[go_sem,simprocAttr,↓reduceIte,↓Nat.reduceEqDiff,xx,fd56,m56,c,hx.s,b2]
theorem rleP_at (h:5<=n)(x:Le)(hx:LeOk x):call gl tab n 62 [leAV x] []=some (.lst false .sc (strsAV (leP x)),[],[]):=by
 obtain⟨d,rfl⟩:=Nat.exists_eq_add_of_le' h
 have c:=@rints_at gl (d+4) (by omega) false _ hx.i
 have b1:=b16 hx.s
 have b2:=H.bytes_all x.sgn
 simp only[nsI,List.map_cons,List.map_nil]at c
 unfold leP
 simp only[strsAV,List.map_cons,List.map_nil]
 generalize zints _=z at *
 rw[call_go (fd:=fd62) rfl]
 simp(disch:=((fail_if_success (intro _));omega)) only[go_sem,simprocAttr,↓reduceIte,↓Nat.reduceEqDiff,xx,fd62,m62,c,hx.s,b2]
end Go.Proofs.S30
namespace Go.Proofs.S30
open Go Go.Ev Go.Proofs
open Go.Proofs.S30.H (strsAV strsAV_length strsAV_get Sml GlK GlR zints Few64 nsI)
variable {gl :Gl} {n:Nat}
theorem R64.few {a:Int}(h:R64 a):-9223372036854775808<=a/\a<=9223372036854775807:=h
theorem zints_le {l:List Int}(h:l.length<=1000):(zints l).length<=1048576:=by have:=@H.zints_len l;omega
structure KOk (k:Ky):Prop where
 p:R64 k.p
 s:R64 k.s
 k:k.k.length<=1048576
theorem VK.ok {k:Ky}(h:VK k):KOk k:=⟨R64.of h.p,R64.of h.s,by have:=h.k;omega⟩
theorem few_cons {a:Int}{l:List Int}(h:Few64 (a::l)):R64 a/\Few64 l:=⟨h.2 a (by simp),by have:=h.1;simp at this;omega,fun x hx=>h.2 x (by simp[hx])⟩
theorem few_mk {a:Int}{l:List Int}(h1:R64 a)(h2:Few64 l)(h3:l.length<1000):Few64 (a::l):=⟨by simp;omega,fun x hx=>by
 simp only[List.mem_cons]at hx
 rcases hx with rfl|hx
 . exact h1
 . exact h2.2 x hx⟩
theorem few_nil :Few64 []:=⟨by simp,fun x hx=>by simp at hx⟩
def leK (k:Ky)(x:Le):Le:=⟨x.site,x.ep,x.til,k.s,x.sgn⟩
def leS (k:Ky)(x:Le):Le:=⟨x.site,x.ep,x.til,k.s,sea k.k 43 (leP (leK k x))⟩
theorem leK_ok {k:Ky}(hk:KOk k){x:Le}(h:LeOk x):LeOk (leK k x):=by
 obtain⟨a1,h1⟩:=few_cons h.i
 obtain⟨a2,h2⟩:=few_cons h1
 obtain⟨a3,h3⟩:=few_cons h2
 exact⟨few_mk a1 (few_mk a2 (few_mk a3 (few_mk hk.s few_nil (by simp)) (by simp)) (by simp)) (by simp),h.s⟩
theorem leS_ok {k:Ky}(hk:KOk k){x:Le}(h:LeOk x):LeOk (leS k x):=⟨(leK_ok hk h).i,sea_len _ _ _⟩
theorem leP_pts (x:Le):Pts (leP x):=⟨by simp[leP],fun y hy=>by
 simp only[leP,List.mem_cons,List.not_mem_nil,or_false]at hy
 subst hy;exact zints_le (by simp)⟩
def zLe :AV:=.agg [i64 0,i64 0,i64 0,i64 0,.agg H.out16l]
theorem leSd_at [Nonempty (GlK gl)](h:9<=n){k:Ky}(hk:KOk k)(tag:Int)(x:Le)(hx:LeOk x):call gl tab n 55 [ky k,i64 tag,leAV x,.fn 56 []] []=some (.agg (sAV k.k tag (leP x)),[],[]):=by
 obtain⟨d,rfl⟩:=Nat.exists_eq_add_of_le' h
 have c1:=@leP_at gl (d+8) (by omega) x hx
 have c2:=@make_at gl (d+8) _ (by omega) k hk.k tag false (leP x) (leP_pts _)
 have q0:=H.bytes_all x.sgn
 have d1:=sAV_len k.k tag (leP x)
 have d2:=sAV_all k.k tag (leP x)
 have d3:=sAV_pl k.k tag (leP x)
 generalize sAV k.k tag (leP x)=z at *
 generalize strsAV (leP x)=w at *
 rw[call_go (fd:=fd55) rfl]
 simp(implicitDefEqProofs:=false) (disch:=((fail_if_success (intro _));omega)) only[go_sem,simprocAttr,↓reduceIte,↓Nat.reduceEqDiff,xx,fd55,m55,c1,c2,hx.s,q0,d1,d2,d3,↓out16_eq,H.out16_len,H.out16_all,H.out16_pl]
theorem leS_at [Nonempty (GlK gl)](h:10<=n){k:Ky}(hk:KOk k)(x:Le)(hx:LeOk x):call gl tab n 36 [ky k,leAV x] []=some (leAV (leS k x),[],[]):=by
 obtain⟨d,rfl⟩:=Nat.exists_eq_add_of_le' h
 have c1:=@leSd_at gl (d+9) _ (by omega) k hk 43 _ (leK_ok hk hx)
 have q0:=H.bytes_all x.sgn
 have d1:=sAV_len k.k 43 (leP (leK k x))
 have d2:=sAV_all k.k 43 (leP (leK k x))
 have d3:=sAV_pl k.k 43 (leP (leK k x))
 have e1:bytesAV (sea k.k 43 (leP (leK k x)))=sAV k.k 43 (leP (leK k x)):=rfl
 unfold leS
 simp only[leAV,leK,bAV,e1]at c1 d1 d2 d3 ⊢
 simp only[leK,bAV]at e1
 rw[e1]
 generalize sAV k.k 43 _=z at *
 rw[call_go (fd:=fd36) rfl]
 simp(implicitDefEqProofs:=false) (disch:=((fail_if_success (intro _));omega)) only[go_sem,simprocAttr,↓reduceIte,↓Nat.reduceEqDiff,xx,fd36,m36,c1,hx.s,q0,d1,d2,d3,↓out16_eq,H.out16_len,H.out16_all,H.out16_pl]
end Go.Proofs.S30
namespace Go.Proofs.S30
open Go Go.Ev Go.Proofs
open Go.Proofs.S30.H (strsAV strsAV_length strsAV_get Sml GlK GlR zints Few64 nsI)
variable {gl :Gl} {n:Nat}
def isSite (a:Int):Bool:=decide (0<=a/\a<64)
theorem site_at (h:1<=n)(a:Int):call gl tab n 63 [i64 a] []=some (.bool (isSite a),[],[]):=by
 obtain⟨d,rfl⟩:=Nat.exists_eq_add_of_le' h
 rw[call_go (fd:=fd63) rfl]
 unfold isSite
 by_cases h1:0<=a
 . by_cases h2:a<64
   . rw[decide_eq_true ⟨h1,h2⟩];simp(disch:=((fail_if_success (intro _));omega)) only[go_sem,simprocAttr,↓reduceIte,↓Nat.reduceEqDiff,xx,fd63,m63]
   . rw[decide_eq_false fun h=>h2 h.2];simp(disch:=((fail_if_success (intro _));omega)) only[go_sem,simprocAttr,↓reduceIte,↓Nat.reduceEqDiff,xx,fd63,m63]
 . rw[decide_eq_false fun h=>h1 h.1];simp(disch:=((fail_if_success (intro _));omega)) only[go_sem,simprocAttr,↓reduceIte,↓Nat.reduceEqDiff,xx,fd63,m63]
theorem r64_1 :R64 1:=by unfold R64;omega
def leC (l:List Ky)(x:Le):Int:=if isSite x.site=true then(if 1<=x.til then ckE l 1 x.ser 43 (leP x) x.sgn (x.til-1) (x.til-1)else ckE l 1 x.ser 43 (leP x) x.sgn (-1) 0)else 1
theorem LeOk.g {x:Le}(h:LeOk x):R64 x.ser:=h.i.2 _ (by simp)
theorem LeOk.u {x:Le}(h:LeOk x):R64 x.til:=h.i.2 _ (by simp)
section
variable {f :Bool} {m:Sh} {l:List Ky}
theorem leC_at [Nonempty (GlK gl)](h:11<=n)(hm:Mk l m)(hv:VR l)(x:Le)(hx:LeOk x):call gl tab n 45 [.lst f m (ks l),leAV x] []=some (i64 (leC l x),[],[]):=by
 obtain⟨d,rfl⟩:=Nat.exists_eq_add_of_le' h
 have c0:=@site_at gl (d+10) (by omega) x.site
 have q0:=H.bytes_all x.sgn
 have hu:=hx.u
 unfold R64 at hu
 unfold leC
 by_cases hsi:isSite x.site=true
 . rw[hsi]at c0
   rw[if_pos hsi]
   have c1:=@leP_at gl (d+10) (by omega) x hx
   by_cases ht:1<=x.til
   . rw[if_pos ht]
     have c2:=@check_at gl (d+10) f m l _ _ _ _ false _ (by omega) hm hv r64_1 hx.g 43 (leP_pts x) hx.s (x.til-1) (x.til-1)
     generalize ckE _ _ _ _ _ _ _ _=z at *
     generalize strsAV (leP x)=w at *
     rw[call_go (fd:=fd45) rfl]
     simp(implicitDefEqProofs:=false) (disch:=((fail_if_success (intro _));omega)) only[go_sem,simprocAttr,↓reduceIte,↓Nat.reduceEqDiff,xx,fd45,m45,c0,c1,c2,hx.s,q0]
   . rw[if_neg ht]
     have c2:=@check_at gl (d+10) f m l _ _ _ _ false _ (by omega) hm hv r64_1 hx.g 43 (leP_pts x) hx.s (-1) 0
     generalize ckE _ _ _ _ _ _ _ _=z at *
     generalize strsAV (leP x)=w at *
     rw[call_go (fd:=fd45) rfl]
     simp(implicitDefEqProofs:=false) (disch:=((fail_if_success (intro _));omega)) only[go_sem,simprocAttr,↓reduceIte,↓Nat.reduceEqDiff,xx,fd45,m45,c0,c1,c2,hx.s,q0]
 . rw[if_neg hsi]
   rw[Bool.not_eq_true]at hsi
   rw[hsi]at c0
   rw[call_go (fd:=fd45) rfl]
   simp(implicitDefEqProofs:=false) (disch:=((fail_if_success (intro _));omega)) only[go_sem,simprocAttr,↓reduceIte,↓Nat.reduceEqDiff,xx,fd45,m45,c0,hx.s,q0]
theorem ckE_off {p s tag:Int}{ps:List (List UInt8)}{sl:List UInt8}{lo hi:Int}(hv:VR l)(h:lo<0\/1099511627776<=hi):ckE l p s tag ps sl lo hi=match fnK l p s with|none=>5|some _=>9:=by
 unfold ckE
 cases hf:fnK l p s with
 | none=>rfl
 | some x =>
   have hx:x∈l:=List.mem_of_find?_eq_some hf
   obtain⟨i,hi',rfl⟩:=List.getElem_of_mem hx
   have v:=(hv.ok i hi').v.t
   rw[yat_eq hi']at v
   have hc:cnt l[i] lo hi=false:=by unfold cnt;rw[decide_eq_false_iff_not];omega
   simp only[hc,Bool.false_eq_true,if_false]
end
end Go.Proofs.S30
