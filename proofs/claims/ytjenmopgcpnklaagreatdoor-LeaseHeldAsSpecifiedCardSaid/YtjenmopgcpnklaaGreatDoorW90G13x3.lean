/-
  Chapter 4: what Check answers, in both. No condition.
-/
import Derived.Test.YtjenmopgcpnklaaGreatDoorW90G12x3
import Derived.Test.YtjenmopgcpnklaaGreatDoorW90G10x3
set_option linter.unusedVariables false
set_option linter.unusedSimpArgs false
set_option linter.unusedSectionVars false
namespace Go.Proofs.S90
open Go Go.Ev Go.Proofs
open Go.Proofs.S90.H (strsAV strsAV_length strsAV_get Sml GlK GlR)
variable {gl :Gl} {n:Nat}
theorem eqB_all :∀(a b:List UInt8),a.length=b.length->eqAll ((bytesAV a).zip (bytesAV b)) (fun p=>eqAV .it p.1 p.2)=some (decide (a=b))
 | [],[],_=>rfl
 | x::a,y::b,h=>by
   have ih:=eqB_all a b (by simpa using h)
   simp only[bytesAV,List.map_cons,List.zip_cons_cons,eqAll,eqAV,if_pos,Option.bind_some]
   simp only[bytesAV]at ih
   rw[ih]
   by_cases e:x=y
   . subst e;simp
   . have:((x.toNat:Int)==(y.toNat:Int))=false:=by
      rw[beq_eq_false_iff_ne];intro h2
      exact e (UInt8.toNat_inj.1 (by omega))
     rw[this];simp[e]
 | [],_::_,h=>by simp at h
 | _::_,[],h=>by simp at h
theorem eqB {a b:List UInt8}(ha:a.length=16)(hb:b.length=16):eqAV (.ar 16 .it) (.agg (bytesAV a)) (.agg (bytesAV b))=some (decide (a=b)):=by
 have:=eqB_all a b (by omega)
 rw[eqAV,if_pos ⟨by rw[bytesAV_length];exact ha,by rw[bytesAV_length];exact hb⟩]
 exact this
def fnK (l:List Ky)(p s:Int):Option Ky:=l.find? fun x=>x.p==p&&x.s==s
theorem fnK_is {l:List Ky}(hv:VR l){p s:Int}{k:Nat}(hk:Is l p s k):fnK l p s=some (yat l k):=by
 unfold fnK
 rw[List.find?_eq_some_iff_getElem]
 refine⟨by rw[Bool.and_eq_true,beq_iff_eq,beq_iff_eq];exact hk.2,k,hk.1,(yat_eq hk.1).symm,fun j hj=> ?_⟩
 have hj2:j<l.length:=by have:=hk.1;omega
 rw[Bool.not_eq_true',Bool.and_eq_false_iff]
 by_cases h1:l[j].p=p
 . right;rw[beq_eq_false_iff_ne];intro h2
   have:=is_one hv ⟨hj2,by rw[yat_eq hj2];exact h1,by rw[yat_eq hj2];exact h2⟩ hk
   omega
 . left;rw[beq_eq_false_iff_ne];exact h1
theorem fnK_no {l:List Ky}{p s:Int}(hk:∀k,¬Is l p s k):fnK l p s=none:=by
 unfold fnK
 rw[List.find?_eq_none]
 intro x hx
 obtain⟨j,hj,rfl⟩:=List.getElem_of_mem hx
 rw[Bool.and_eq_true,beq_iff_eq,beq_iff_eq]
 rintro ⟨h1,h2⟩
 exact hk j ⟨hj,by rw[yat_eq hj];exact h1,by rw[yat_eq hj];exact h2⟩
def ckE (l:List Ky)(p s tag:Int)(ps:List (List UInt8))(sl:List UInt8)(lo hi:Int):Int :=
 match fnK l p s with
 | none=>5
 | some x=>if cnt x lo hi=true then(if sea x.k tag ps=sl then 0 else 8)else 9
section
variable {f :Bool} {m:Sh} {l:List Ky} {p s:Int} {sl:List UInt8} {ps:List (List UInt8)} {fp:Bool}
theorem check_at [Nonempty (GlK gl)](h:10<=n)(hm:Mk l m)(hv:VR l)(hp:R64 p)(hs:R64 s)(tag:Int)(hps:Pts ps)(hsl:sl.length=16)(lo hi:Int) :
  call gl tab n 42 [.lst f m (ks l),i64 p,i64 s,i64 tag,.lst fp .sc (strsAV ps),.agg (bytesAV sl),.agg [i64 lo,i64 hi]] []=some (i64 (ckE l p s tag ps sl lo hi),[],[]):=by
 obtain⟨d,rfl⟩:=Nat.exists_eq_add_of_le' h
 have b1:(bytesAV sl).length=16:=by rw[bytesAV_length];exact hsl
 have b2:=H.bytes_all sl
 rcases @pfinds gl (d+9) (by omega) f m l hm hv p s hp hs with ⟨k,hk,c16⟩|⟨hno,c16⟩
 . have e:=fnK_is hv hk
   have hvk:=(hv.ok k hk.1).v.k
   have c62:=@counts_at gl (d+9) (by omega) (yat l k) lo hi
   have c23:=@make_at gl (d+9) _ (by omega) (yat l k) (by omega) tag fp ps hps
   have d1:=sAV_len (yat l k).k tag ps
   have d2:=sAV_all (yat l k).k tag ps
   have eq:=eqB (sea_len (yat l k).k tag ps) hsl
   rw[show bytesAV (sea (yat l k).k tag ps)=sAV (yat l k).k tag ps from rfl]at eq
   unfold ckE
   rw[e]
   simp only
   cases hc:cnt (yat l k) lo hi with
   | false =>
     rw[hc]at c62
     rw[call_go (fd:=fd42) rfl]
     simp(disch:=((fail_if_success (intro _));omega)) only[go_sem,simprocAttr,↓reduceIte,↓Nat.reduceEqDiff,xx,fd42,m42,c16,c62,b1,b2,Bool.false_eq_true]
   | true =>
     rw[hc]at c62
     by_cases hq:sea (yat l k).k tag ps=sl
     . rw[decide_eq_true hq]at eq
       rw[if_pos rfl,if_pos hq]
       generalize sAV (yat l k).k tag ps=z at *
       generalize bytesAV sl=w at *
       rw[call_go (fd:=fd42) rfl]
       simp(disch:=((fail_if_success (intro _));omega)) only[go_sem,simprocAttr,↓reduceIte,↓Nat.reduceEqDiff,xx,fd42,m42,c16,c62,b1,b2,c23,d1,d2,eq]
     . rw[decide_eq_false hq]at eq
       rw[if_pos rfl,if_neg hq]
       generalize sAV (yat l k).k tag ps=z at *
       generalize bytesAV sl=w at *
       rw[call_go (fd:=fd42) rfl]
       simp(disch:=((fail_if_success (intro _));omega)) only[go_sem,simprocAttr,↓reduceIte,↓Nat.reduceEqDiff,xx,fd42,m42,c16,c62,b1,b2,c23,d1,d2,eq]
 . unfold ckE
   rw[fnK_no hno]
   rw[call_go (fd:=fd42) rfl]
   simp(disch:=((fail_if_success (intro _));omega)) only[go_sem,simprocAttr,↓reduceIte,↓Nat.reduceEqDiff,xx,fd42,m42,c16,b1,b2]
theorem rcheck_at [Nonempty (GlR gl)](h:10<=n)(hm:Mk l m)(hv:VR l)(hp:R64 p)(hs:R64 s)(tag:Int)(hps:Pts ps)(hsl:sl.length=16)(lo hi:Int) :
  call gl tab n 48 [.lst f m (ks l),i64 p,i64 s,i64 tag,.lst fp .sc (strsAV ps),.agg (bytesAV sl),.agg [i64 lo,i64 hi]] []=some (i64 (ckE l p s tag ps sl lo hi),[],[]):=by
 obtain⟨d,rfl⟩:=Nat.exists_eq_add_of_le' h
 have b1:(bytesAV sl).length=16:=by rw[bytesAV_length];exact hsl
 have b2:=H.bytes_all sl
 rcases @rfinds gl (d+9) (by omega) f m l hm hv p s hp hs with ⟨k,hk,c17⟩|⟨hno,c17⟩
 . have e:=fnK_is hv hk
   have hvk:=(hv.ok k hk.1).v.k
   have c55:=@rcounts_at gl (d+9) (by omega) (yat l k) lo hi
   have c24:=@rmake_at gl (d+9) _ (by omega) (yat l k) (by omega) tag fp ps hps
   have d1:=sAV_len (yat l k).k tag ps
   have d2:=sAV_all (yat l k).k tag ps
   have eq:=eqB (sea_len (yat l k).k tag ps) hsl
   rw[show bytesAV (sea (yat l k).k tag ps)=sAV (yat l k).k tag ps from rfl]at eq
   unfold ckE
   rw[e]
   simp only
   cases hc:cnt (yat l k) lo hi with
   | false =>
     rw[hc]at c55
     rw[call_go (fd:=fd48) rfl]
     simp(disch:=((fail_if_success (intro _));omega)) only[go_sem,simprocAttr,↓reduceIte,↓Nat.reduceEqDiff,xx,fd48,m48,c17,c55,b1,b2,Bool.false_eq_true]
   | true =>
     rw[hc]at c55
     by_cases hq:sea (yat l k).k tag ps=sl
     . rw[decide_eq_true hq]at eq
       rw[if_pos rfl,if_pos hq]
       generalize sAV (yat l k).k tag ps=z at *
       generalize bytesAV sl=w at *
       rw[call_go (fd:=fd48) rfl]
       simp(disch:=((fail_if_success (intro _));omega)) only[go_sem,simprocAttr,↓reduceIte,↓Nat.reduceEqDiff,xx,fd48,m48,c17,c55,b1,b2,c24,d1,d2,eq]
     . rw[decide_eq_false hq]at eq
       rw[if_pos rfl,if_neg hq]
       generalize sAV (yat l k).k tag ps=z at *
       generalize bytesAV sl=w at *
       rw[call_go (fd:=fd48) rfl]
       simp(disch:=((fail_if_success (intro _));omega)) only[go_sem,simprocAttr,↓reduceIte,↓Nat.reduceEqDiff,xx,fd48,m48,c17,c55,b1,b2,c24,d1,d2,eq]
 . unfold ckE
   rw[fnK_no hno]
   rw[call_go (fd:=fd48) rfl]
   simp(disch:=((fail_if_success (intro _));omega)) only[go_sem,simprocAttr,↓reduceIte,↓Nat.reduceEqDiff,xx,fd48,m48,c17,b1,b2]
end
end Go.Proofs.S90
namespace Go.Proofs.S90.H
open Go Go.Ev Go.Proofs Go.Proofs.S90
variable {gl :Gl}
def nsI (l:List Int):List AV:=l.map fun n=>.int .i64 n
theorem nsI_length (l:List Int):(nsI l).length=l.length:=by simp[nsI]
theorem nsI_get {l:List Int}{i:Nat}(h:i<l.length):(nsI l)[i]? =some (.int .i64 l[i]):=by simp[nsI,h]
def Few64 (l:List Int):Prop:=l.length<=1000/\∀x∈l,-9223372036854775808<=x/\x<=9223372036854775807
theorem few_get {l:List Int}(h:Few64 l){i:Nat}(hi:i<l.length):-9223372036854775808<=l[i]/\l[i]<=9223372036854775807:=h.2 _ (List.getElem_mem hi)
def zints (l:List Int):List UInt8:=zint l.length++(l.map zint).flatten
def zpre (l:List Int)(i:Nat):List UInt8:=zint l.length++((l.take i).map zint).flatten
theorem zpre_0 (l:List Int):zpre l 0=zint l.length:=by simp[zpre]
theorem zpre_all (l:List Int):zpre l l.length=zints l:=by simp[zpre,zints]
theorem zpre_s {l:List Int}{i:Nat}(hi:i<l.length):zpre l (i+1)=zpre l i++zint l[i]:=by
 unfold zpre;rw[List.take_succ_eq_append_getElem hi,List.map_append,List.flatten_append,<-List.append_assoc];simp
theorem zpre_len {l:List Int}:∀{i:Nat},i<=l.length->(zpre l i).length<=10*(i+1)
 | 0,_=>by rw[zpre_0];have:=zint_len l.length;omega
 | i+1,h=>by
   have h1:=zpre_len (l:=l) (i:=i) (by omega)
   have h2:=zint_len l[i]
   rw[zpre_s (by omega),List.length_append];omega
theorem zints_len {l:List Int}:(zints l).length<=10*(l.length+1):=by rw[<-zpre_all];exact zpre_len (Nat.le_refl _)
def LwI :MC:=match m92 with| .seq _ (.seq _ (.seq (.seq _ (.block _ (.loop _ b))) _))=>b|_=>.skip
def SwI (f:Bool)(l:List Int)(i:Nat):St :=
 ⟨[.set 13 (.int .i64 i),.set 12 (.int .i64 l.length),.set 11 (.lst f .sc (nsI l)),.set 5 (.sl 5005 [] 0 (zpre l i).length),.set 1 (.fn 93 [])],[(5005,.grow .sc (bytesAV (zpre l i)))]⟩
theorem ints_ok {n:Nat}(h:3<=n)(f:Bool)(l:List Int)(hl:Few64 l):call gl tab n 79 [.lst f .sc (nsI l)] []=some (.sl 20000 [] 0 (zints l).length,[],[.grow .sc (bytesAV (zints l))]):=by
 obtain⟨d,rfl⟩:=Nat.exists_eq_add_of_le' h
 have h1:=hl.1
 have hs:∀i,i<l.length->contK [.slot 1,.own 5 5005 .sc,.slot 11,.slot 12,.slot 13] (evC gl (call gl tab (d+1)) LwI (SwI f l i))=some (SwI f l (i+1)):=fun i hi=>by
  have hx:=nsI_get hi
  have c:=int53_ok (gl:=gl) d l[i] (few_get hl hi)
  have hz:=zint_len l[i]
  have hp:=zpre_len (l:=l) (i:=i) (by omega)
  have hL:(zpre l i).length+(zint l[i]).length<=LIM:=by unfold LIM;omega
  rw[SwI,SwI,zpre_s hi,bytesAV_append,List.length_append]
  generalize zpre l i=p at *
  generalize zint l[i]=q at *
  simp(disch:=((fail_if_success (intro _));omega)) only[go_sem,simprocAttr,↓reduceIte,↓Nat.reduceEqDiff,xx,LwI,m92,hx,nsI_length,c,bytesAV_length,hL]
 simp only[LwI,m92]at hs
 have c0:=int53_ok (gl:=gl) d (l.length:Int) (by omega)
 have e2:=bytesAV_length (zints l)
 have cl:call gl tab (d+2) 92 [.lst f .sc (nsI l),.fn 93 []] []=some (.sl 20000 [] 0 (zints l).length,[],[.grow .sc (bytesAV (zints l))]):=by
  rw[call_go (fd:=fd92) rfl]
  simp(disch:=((fail_if_success (intro _));omega)) only[go_sem,simprocAttr,↓reduceIte,↓Nat.reduceEqDiff,xx,fd92,m92,nsI_length,c0]
  rw[iter_to (SwI f l) l.length (by unfold LF;omega)]
  . rw[SwI,zpre_all]
    simp(disch:=((fail_if_success (intro _));omega)) only[go_sem,simprocAttr,↓reduceIte,↓Nat.reduceEqDiff,xx,nsI_length,bytesAV_length]
  . simp(disch:=((fail_if_success (intro _));omega)) only[go_sem,simprocAttr,↓reduceIte,↓Nat.reduceEqDiff,xx,SwI,zpre_0,nsI_length]
  . exact hs
  . rw[SwI,zpre_all]
    simp(disch:=((fail_if_success (intro _));omega)) only[go_sem,simprocAttr,↓reduceIte,↓Nat.reduceEqDiff,xx,nsI_length,bytesAV_length]
 rw[call_go (fd:=fd79) rfl]
 generalize zints l=z at *
 simp(disch:=((fail_if_success (intro _));omega)) only[go_sem,simprocAttr,↓reduceIte,↓Nat.reduceEqDiff,xx,fd79,m79,cl,e2,noImms_bytesAV]
def LrI :MC:=match m81 with| .seq _ (.seq _ (.seq (.seq _ (.block _ (.loop _ b))) _))=>b|_=>.skip
def SrI (f:Bool)(l:List Int)(i:Nat):St :=
 ⟨[.set 4 (.int .i64 i),.set 3 (.sl 5003 [] 0 (zpre l i).length),.set 0 (.lst f .sc (nsI l))],[(5003,.grow .sc (bytesAV (zpre l i)))]⟩
theorem rints_ok {n:Nat}(h:2<=n)(f:Bool)(l:List Int)(hl:Few64 l):call gl tab n 81 [.lst f .sc (nsI l)] []=some (.sl 20000 [] 0 (zints l).length,[],[.grow .sc (bytesAV (zints l))]):=by
 obtain⟨d,rfl⟩:=Nat.exists_eq_add_of_le' h
 have h1:=hl.1
 have hs:∀i,i<l.length->contK [.slot 0,.own 3 5003 .sc,.slot 4] (evC gl (call gl tab (d+1)) LrI (SrI f l i))=some (SrI f l (i+1)):=fun i hi=>by
  have hx:=nsI_get hi
  have c:=int54_ok (gl:=gl) d l[i] (few_get hl hi)
  have hz:=zint_len l[i]
  have hp:=zpre_len (l:=l) (i:=i) (by omega)
  have hL:(zpre l i).length+(zint l[i]).length<=LIM:=by unfold LIM;omega
  rw[SrI,SrI,zpre_s hi,bytesAV_append,List.length_append]
  generalize zpre l i=p at *
  generalize zint l[i]=q at *
  simp(disch:=((fail_if_success (intro _));omega)) only[go_sem,simprocAttr,↓reduceIte,↓Nat.reduceEqDiff,xx,LrI,m81,hx,nsI_length,c,bytesAV_length,hL]
 simp only[LrI,m81]at hs
 have c0:=int54_ok (gl:=gl) d (l.length:Int) (by omega)
 rw[call_go (fd:=fd81) rfl]
 simp(disch:=((fail_if_success (intro _));omega)) only[go_sem,simprocAttr,↓reduceIte,↓Nat.reduceEqDiff,xx,fd81,m81,nsI_length,c0]
 rw[iter_to (SrI f l) l.length (by unfold LF;omega)]
 . rw[SrI,zpre_all]
   simp(disch:=((fail_if_success (intro _));omega)) only[go_sem,simprocAttr,↓reduceIte,↓Nat.reduceEqDiff,xx,nsI_length,bytesAV_length]
 . simp(disch:=((fail_if_success (intro _));omega)) only[go_sem,simprocAttr,↓reduceIte,↓Nat.reduceEqDiff,xx,SrI,zpre_0,nsI_length]
 . exact hs
 . rw[SrI,zpre_all]
   simp(disch:=((fail_if_success (intro _));omega)) only[go_sem,simprocAttr,↓reduceIte,↓Nat.reduceEqDiff,xx,nsI_length,bytesAV_length]
end Go.Proofs.S90.H
namespace Go.Proofs.S90
open Go Go.Ev Go.Proofs
open Go.Proofs.S90.H (strsAV strsAV_length strsAV_get Sml GlK GlR zints Few64 nsI)
variable {gl :Gl} {n:Nat}
theorem ints_at (h:4<=n)(f:Bool)(l:List Int)(hl:Few64 l):call gl tab n 64 [.lst f .sc (nsI l)] []=some (.str (zints l),[],[]):=by
 obtain⟨d,rfl⟩:=Nat.exists_eq_add_of_le' h
 have c:=@H.ints_ok gl (d+3) (by omega) f l hl
 have t:List.take (zints l).length (bytesAV (zints l))=bytesAV (zints l):=List.take_of_length_le (by rw[bytesAV_length];exact Nat.le_refl _)
 rw[call_go (fd:=fd64) rfl]
 generalize zints l=z at *
 simp(disch:=((fail_if_success (intro _));omega)) only[go_sem,simprocAttr,↓reduceIte,↓Nat.reduceEqDiff,xx,fd64,m64,c,bytesAV_length,t]
theorem rints_at (h:4<=n)(f:Bool)(l:List Int)(hl:Few64 l):call gl tab n 70 [.lst f .sc (nsI l)] []=some (.str (zints l),[],[]):=by
 obtain⟨d,rfl⟩:=Nat.exists_eq_add_of_le' h
 have c:=@H.rints_ok gl (d+3) (by omega) f l hl
 have t:List.take (zints l).length (bytesAV (zints l))=bytesAV (zints l):=List.take_of_length_le (by rw[bytesAV_length];exact Nat.le_refl _)
 rw[call_go (fd:=fd70) rfl]
 generalize zints l=z at *
 simp(disch:=((fail_if_success (intro _));omega)) only[go_sem,simprocAttr,↓reduceIte,↓Nat.reduceEqDiff,xx,fd70,m70,c,bytesAV_length,t]
abbrev sB :Sh:=.ar 16 .sc
abbrev bAV (b:List UInt8):AV:=.agg (bytesAV b)
theorem b16 {b:List UInt8}(h:b.length=16):(bytesAV b).length=16:=by rw[bytesAV_length];exact h
theorem b16t {b:List UInt8}(h:b.length=16):List.take 16 (bytesAV b)=bytesAV b:=List.take_of_length_le (by rw[b16 h];exact Nat.le_refl _)
structure Le where
 site:Int
 ep:Int
 til:Int
 ser:Int
 sgn:List UInt8
abbrev leAV (x:Le):AV:=.agg [i64 x.site,i64 x.ep,i64 x.til,i64 x.ser,bAV x.sgn]
structure LeOk (x:Le):Prop where
 i:Few64 [x.site,x.ep,x.til,x.ser]
 s:x.sgn.length=16
def leP (x:Le):List (List UInt8):=[zints [x.site,x.ep,x.til,x.ser]]
theorem leP_at (h:5<=n)(x:Le)(hx:LeOk x):call gl tab n 43 [leAV x] []=some (.lst false .sc (strsAV (leP x)),[],[]):=by
 obtain⟨d,rfl⟩:=Nat.exists_eq_add_of_le' h
 have c:=@ints_at gl (d+4) (by omega) false _ hx.i
 have b1:=b16 hx.s
 have b2:=H.bytes_all x.sgn
 simp only[nsI,List.map_cons,List.map_nil]at c
 unfold leP
 simp only[strsAV,List.map_cons,List.map_nil]
 generalize zints _=z at *
 rw[call_go (fd:=fd43) rfl]
 simp(disch:=((fail_if_success (intro _));omega)) only[go_sem,simprocAttr,↓reduceIte,↓Nat.reduceEqDiff,xx,fd43,m43,c,hx.s,b2]
theorem rleP_at (h:5<=n)(x:Le)(hx:LeOk x):call gl tab n 49 [leAV x] []=some (.lst false .sc (strsAV (leP x)),[],[]):=by
 obtain⟨d,rfl⟩:=Nat.exists_eq_add_of_le' h
 have c:=@rints_at gl (d+4) (by omega) false _ hx.i
 have b1:=b16 hx.s
 have b2:=H.bytes_all x.sgn
 simp only[nsI,List.map_cons,List.map_nil]at c
 unfold leP
 simp only[strsAV,List.map_cons,List.map_nil]
 generalize zints _=z at *
 rw[call_go (fd:=fd49) rfl]
 simp(disch:=((fail_if_success (intro _));omega)) only[go_sem,simprocAttr,↓reduceIte,↓Nat.reduceEqDiff,xx,fd49,m49,c,hx.s,b2]
end Go.Proofs.S90
