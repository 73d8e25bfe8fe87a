/-
  Chapter 4: what Make and Check answer, in both. No condition.
-/
import Derived.Test.YtjenmopgcpnklaaDoorW30G10x4
import Derived.Test.YtjenmopgcpnklaaDoorW30G9x4
set_option linter.unusedVariables false
set_option linter.unusedSimpArgs false
set_option linter.unusedSectionVars false
namespace Go.Proofs.S30
open Go Go.Ev Go.Proofs
open Go.Proofs.S30.H (strsAV strsAV_length strsAV_get Sml GlK GlR)
variable {gl :Gl} {n:Nat}
def Pts (l:List (List UInt8)):Prop:=l.length<=100/\∀x∈l,x.length<=1048576
theorem Pts.all {s:List UInt8}{l:List (List UInt8)}(h:Pts l)(hs:s.length<=1048576):Sml (allP s l):=by
 refine⟨by have:=h.1;simp;omega,fun x hx=> ?_⟩
 simp only[allP,List.mem_cons,List.mem_append,List.not_mem_nil,or_false]at hx
 rcases hx with rfl|hx|rfl
 . exact hs
 . exact h.2 x hx
 . exact hs
def sea (k:List UInt8)(tag:Int)(l:List (List UInt8)):List UInt8:=H.dig (H.inp tag (allP k l))
theorem sea_len (k:List UInt8)(tag:Int)(l:List (List UInt8)):(sea k tag l).length=16:=H.dig_len _
def sAV (k:List UInt8)(tag:Int)(l:List (List UInt8)):List AV:=bytesAV (sea k tag l)
theorem sAV_len (k:List UInt8)(tag:Int)(l:List (List UInt8)):(sAV k tag l).length=16:=by rw[sAV,bytesAV_length,sea_len]
theorem out16_eq :List.replicate 16 (AV.int .u8 0)=H.out16l:=rfl
theorem sAV_all (k:List UInt8)(tag:Int)(l:List (List UInt8)):(sAV k tag l).all AV.scalar=true:=H.bytes_all _
theorem sAV_pl (k:List UInt8)(tag:Int)(l:List (List UInt8)):noImms (sAV k tag l)=true:=H.noImms_bytesAV _
theorem make_at [Nonempty (GlK gl)](h:8<=n)(x:Ky)(hx:x.k.length<=1048576)(tag:Int)(f:Bool)(l:List (List UInt8))(hl:Pts l) :
  call gl tab n 69 [ky x,i64 tag,.lst f .sc (strsAV l)] []=some (.agg (sAV x.k tag l),[],[]):=by
 obtain⟨d,rfl⟩:=Nat.exists_eq_add_of_le' h
 have c65:=@concat_at gl (d+7) (by omega) f x.k l (by have:=hl.1;omega)
 have c64:=@H.of_at gl _ (d+6) (by omega) tag false (allP x.k l) (hl.all hx)
 have e1:(strsAV (allP x.k l)).length=l.length+2:=by rw[strsAV_length];simp
 have e2:List.take (l.length+2) (strsAV (allP x.k l))=strsAV (allP x.k l):=by rw[<-e1];exact List.take_length
 have d1:=sAV_len x.k tag l
 have d2:=sAV_all x.k tag l
 have d3:=sAV_pl x.k tag l
 rw[show bytesAV (H.dig (H.inp tag (allP x.k l)))=sAV x.k tag l from rfl]at c64
 generalize sAV x.k tag l=z at *
 generalize strsAV (allP x.k l)=w at *
 rw[call_go (fd:=fd69) rfl]
 simp(disch:=((fail_if_success (intro _));omega)) only[go_sem,simprocAttr,↓reduceIte,↓Nat.reduceEqDiff,xx,fd69,m69,↓out16_eq,H.out16_len,H.out16_all,H.out16_pl,c65,c64,e1,e2,d1,d2,d3]
theorem rmake_at [Nonempty (GlR gl)](h:8<=n)(x:Ky)(hx:x.k.length<=1048576)(tag:Int)(f:Bool)(l:List (List UInt8))(hl:Pts l) :
  call gl tab n 61 [ky x,i64 tag,.lst f .sc (strsAV l)] []=some (.agg (sAV x.k tag l),[],[]):=by
 obtain⟨d,rfl⟩:=Nat.exists_eq_add_of_le' h
 have c66:=@H.rof_at gl _ (d+5) (by omega) tag false (allP x.k l) (hl.all hx)
 have e0:AV.str x.k::(strsAV l++[.str x.k])=strsAV (allP x.k l):=by simp[H.strsAV]
 have e1:(strsAV (allP x.k l)).length=l.length+2:=by rw[strsAV_length];simp
 have e2:List.take (l.length+2) (strsAV (allP x.k l))=strsAV (allP x.k l):=by rw[<-e1];exact List.take_length
 have d1:=sAV_len x.k tag l
 have d2:=sAV_all x.k tag l
 have d3:=sAV_pl x.k tag l
 have hl1:=hl.1
 have h1:1+l.length<=LIM:=by unfold LIM;omega
 have h2:1+l.length+1<=LIM:=by unfold LIM;omega
 have e5:1+l.length+1=l.length+2:=by omega
 have e6:(strsAV l).length=l.length:=strsAV_length l
 have e7:l.length+1+1=l.length+2:=by omega
 rw[show bytesAV (H.dig (H.inp tag (allP x.k l)))=sAV x.k tag l from rfl]at c66
 generalize sAV x.k tag l=z at *
 generalize strsAV (allP x.k l)=w at *
 generalize strsAV l=y at *
 rw[call_go (fd:=fd61) rfl]
 simp(disch:=((fail_if_success (intro _));omega)) only[go_sem,simprocAttr,↓reduceIte,↓Nat.reduceEqDiff,xx,fd61,m61,↓out16_eq,H.out16_len,H.out16_all,H.out16_pl,c66,e1,e2,d1,d2,d3,e6,h1,h2,e0,e5,e7,List.cons_append,List.nil_append,List.append_assoc]
end Go.Proofs.S30
namespace Go.Proofs.S30
open Go Go.Ev Go.Proofs
open Go.Proofs.S30.H (strsAV strsAV_length strsAV_get Sml GlK GlR)
variable {gl :Gl} {n:Nat}
theorem eqB_all :∀(a b:List UInt8),a.length=b.length->eqAll ((bytesAV a).zip (bytesAV b)) (fun p=>eqAV .it p.1 p.2)=some (decide (a=b))
 | [],[],_=>rfl
 | x::a,y::b,h=>by
   have ih:=eqB_all a b (by simpa using h)
   simp only[bytesAV,List.map_cons,List.zip_cons_cons,eqAll,eqAV,if_pos,Option.bind_some]
   simp only[bytesAV]at ih
   rw[ih]
   by_cases e:x=y
   . subst e;simp
   . have:((x.toNat:Int)==(y.toNat:Int))=false:=by
      rw[beq_eq_false_iff_ne];intro h2
      exact e (UInt8.toNat_inj.1 (by omega))
     rw[this];simp[e]
 | [],_::_,h=>by simp at h
 | _::_,[],h=>by simp at h
theorem eqB {a b:List UInt8}(ha:a.length=16)(hb:b.length=16):eqAV (.ar 16 .it) (.agg (bytesAV a)) (.agg (bytesAV b))=some (decide (a=b)):=by
 have:=eqB_all a b (by omega)
 rw[eqAV,if_pos ⟨by rw[bytesAV_length];exact ha,by rw[bytesAV_length];exact hb⟩]
 exact this
def fnK (l:List Ky)(p s:Int):Option Ky:=l.find? fun x=>x.p==p&&x.s==s
theorem fnK_is {l:List Ky}(hv:VR l){p s:Int}{k:Nat}(hk:Is l p s k):fnK l p s=some (yat l k):=by
 unfold fnK
 rw[List.find?_eq_some_iff_getElem]
 refine⟨by rw[Bool.and_eq_true,beq_iff_eq,beq_iff_eq];exact hk.2,k,hk.1,(yat_eq hk.1).symm,fun j hj=> ?_⟩
 have hj2:j<l.length:=by have:=hk.1;omega
 rw[Bool.not_eq_true',Bool.and_eq_false_iff]
 by_cases h1:l[j].p=p
 . right;rw[beq_eq_false_iff_ne];intro h2
   have:=is_one hv ⟨hj2,by rw[yat_eq hj2];exact h1,by rw[yat_eq hj2];exact h2⟩ hk
   omega
 . left;rw[beq_eq_false_iff_ne];exact h1
theorem fnK_no {l:List Ky}{p s:Int}(hk:∀k,¬Is l p s k):fnK l p s=none:=by
 unfold fnK
 rw[List.find?_eq_none]
 intro x hx
 obtain⟨j,hj,rfl⟩:=List.getElem_of_mem hx
 rw[Bool.and_eq_true,beq_iff_eq,beq_iff_eq]
 rintro ⟨h1,h2⟩
 exact hk j ⟨hj,by rw[yat_eq hj];exact h1,by rw[yat_eq hj];exact h2⟩
def ckE (l:List Ky)(p s tag:Int)(ps:List (List UInt8))(sl:List UInt8)(lo hi:Int):Int :=
 match fnK l p s with
 | none=>5
 | some x=>if cnt x lo hi=true then(if sea x.k tag ps=sl then 0 else 8)else 9
section
variable {f :Bool} {m:Sh} {l:List Ky} {p s:Int} {sl:List UInt8} {ps:List (List UInt8)} {fp:Bool}
theorem check_at [Nonempty (GlK gl)](h:10<=n)(hm:Mk l m)(hv:VR l)(hp:R64 p)(hs:R64 s)(tag:Int)(hps:Pts ps)(hsl:sl.length=16)(lo hi:Int) :
  call gl tab n 64 [.lst f m (ks l),i64 p,i64 s,i64 tag,.lst fp .sc (strsAV ps),.agg (bytesAV sl),.agg [i64 lo,i64 hi]] []=some (i64 (ckE l p s tag ps sl lo hi),[],[]):=by
 obtain⟨d,rfl⟩:=Nat.exists_eq_add_of_le' h
 have b1:(bytesAV sl).length=16:=by rw[bytesAV_length];exact hsl
 have b2:=H.bytes_all sl
 rcases @pfinds gl (d+9) (by omega) f m l hm hv p s hp hs with ⟨k,hk,c16⟩|⟨hno,c16⟩
 . have e:=fnK_is hv hk
   have hvk:=(hv.ok k hk.1).v.k
   have c62:=@counts_at gl (d+9) (by omega) (yat l k) lo hi
   have c23:=@make_at gl (d+9) _ (by omega) (yat l k) (by omega) tag fp ps hps
   have d1:=sAV_len (yat l k).k tag ps
   have d2:=sAV_all (yat l k).k tag ps
   have eq:=eqB (sea_len (yat l k).k tag ps) hsl
   rw[show bytesAV (sea (yat l k).k tag ps)=sAV (yat l k).k tag ps from rfl]at eq
   unfold ckE
   rw[e]
   simp only
   cases hc:cnt (yat l k) lo hi with
   | false =>
     rw[hc]at c62
     rw[call_go (fd:=fd64) rfl]
     simp(disch:=((fail_if_success (intro _));omega)) only[go_sem,simprocAttr,↓reduceIte,↓Nat.reduceEqDiff,xx,fd64,m64,c16,c62,b1,b2,Bool.false_eq_true]
   | true =>
     rw[hc]at c62
     by_cases hq:sea (yat l k).k tag ps=sl
     . rw[decide_eq_true hq]at eq
       rw[if_pos rfl,if_pos hq]
       generalize sAV (yat l k).k tag ps=z at *
       generalize bytesAV sl=w at *
       rw[call_go (fd:=fd64) rfl]
       simp(disch:=((fail_if_success (intro _));omega)) only[go_sem,simprocAttr,↓reduceIte,↓Nat.reduceEqDiff,xx,fd64,m64,c16,c62,b1,b2,c23,d1,d2,eq]
     . rw[decide_eq_false hq]at eq
       rw[if_pos rfl,if_neg hq]
       generalize sAV (yat l k).k tag ps=z at *
       generalize bytesAV sl=w at *
       rw[call_go (fd:=fd64) rfl]
       simp(disch:=((fail_if_success (intro _));omega)) only[go_sem,simprocAttr,↓reduceIte,↓Nat.reduceEqDiff,xx,fd64,m64,c16,c62,b1,b2,c23,d1,d2,eq]
 . unfold ckE
   rw[fnK_no hno]
   rw[call_go (fd:=fd64) rfl]
   simp(disch:=((fail_if_success (intro _));omega)) only[go_sem,simprocAttr,↓reduceIte,↓Nat.reduceEqDiff,xx,fd64,m64,c16,b1,b2]
end
end Go.Proofs.S30
namespace Go.Proofs.S30.H
open Go Go.Ev Go.Proofs Go.Proofs.S30
variable {gl :Gl}
def nsI (l:List Int):List AV:=l.map fun n=>.int .i64 n
theorem nsI_length (l:List Int):(nsI l).length=l.length:=by simp[nsI]
theorem nsI_get {l:List Int}{i:Nat}(h:i<l.length):(nsI l)[i]? =some (.int .i64 l[i]):=by simp[nsI,h]
def Few64 (l:List Int):Prop:=l.length<=1000/\∀x∈l,-9223372036854775808<=x/\x<=9223372036854775807
theorem few_get {l:List Int}(h:Few64 l){i:Nat}(hi:i<l.length):-9223372036854775808<=l[i]/\l[i]<=9223372036854775807:=h.2 _ (List.getElem_mem hi)
def zints (l:List Int):List UInt8:=zint l.length++(l.map zint).flatten
def zpre (l:List Int)(i:Nat):List UInt8:=zint l.length++((l.take i).map zint).flatten
theorem zpre_0 (l:List Int):zpre l 0=zint l.length:=by simp[zpre]
theorem zpre_all (l:List Int):zpre l l.length=zints l:=by simp[zpre,zints]
theorem zpre_s {l:List Int}{i:Nat}(hi:i<l.length):zpre l (i+1)=zpre l i++zint l[i]:=by
 unfold zpre;rw[List.take_succ_eq_append_getElem hi,List.map_append,List.flatten_append,<-List.append_assoc];simp
theorem zpre_len {l:List Int}:∀{i:Nat},i<=l.length->(zpre l i).length<=10*(i+1)
 | 0,_=>by rw[zpre_0];have:=zint_len l.length;omega
 | i+1,h=>by
   have h1:=zpre_len (l:=l) (i:=i) (by omega)
   have h2:=zint_len l[i]
   rw[zpre_s (by omega),List.length_append];omega
theorem zints_len {l:List Int}:(zints l).length<=10*(l.length+1):=by rw[<-zpre_all];exact zpre_len (Nat.le_refl _)
def LwI :MC:=match m92 with| .seq _ (.seq _ (.seq (.seq _ (.block _ (.loop _ b))) _))=>b|_=>.skip
def SwI (f:Bool)(l:List Int)(i:Nat):St :=
 ⟨[.set 13 (.int .i64 i),.set 12 (.int .i64 l.length),.set 11 (.lst f .sc (nsI l)),.set 5 (.sl 5005 [] 0 (zpre l i).length),.set 1 (.fn 93 [])],[(5005,.grow .sc (bytesAV (zpre l i)))]⟩
theorem ints_ok {n:Nat}(h:3<=n)(f:Bool)(l:List Int)(hl:Few64 l):call gl tab n 81 [.lst f .sc (nsI l)] []=some (.sl 20000 [] 0 (zints l).length,[],[.grow .sc (bytesAV (zints l))]):=by
 obtain⟨d,rfl⟩:=Nat.exists_eq_add_of_le' h
 have h1:=hl.1
 have hs:∀i,i<l.length->contK [.slot 1,.own 5 5005 .sc,.slot 11,.slot 12,.slot 13] (evC gl (call gl tab (d+1)) LwI (SwI f l i))=some (SwI f l (i+1)):=fun i hi=>by
  have hx:=nsI_get hi
  have c:=int53_ok (gl:=gl) d l[i] (few_get hl hi)
  have hz:=zint_len l[i]
  have hp:=zpre_len (l:=l) (i:=i) (by omega)
  have hL:(zpre l i).length+(zint l[i]).length<=LIM:=by unfold LIM;omega
  rw[SwI,SwI,zpre_s hi,bytesAV_append,List.length_append]
  generalize zpre l i=p at *
  generalize zint l[i]=q at *
  simp(disch:=((fail_if_success (intro _));omega)) only[go_sem,simprocAttr,↓reduceIte,↓Nat.reduceEqDiff,xx,LwI,m92,hx,nsI_length,c,bytesAV_length,hL]
 simp only[LwI,m92]at hs
 have c0:=int53_ok (gl:=gl) d (l.length:Int) (by omega)
 have e2:=bytesAV_length (zints l)
 have cl:call gl tab (d+2) 92 [.lst f .sc (nsI l),.fn 93 []] []=some (.sl 20000 [] 0 (zints l).length,[],[.grow .sc (bytesAV (zints l))]):=by
  rw[call_go (fd:=fd92) rfl]
  simp(disch:=((fail_if_success (intro _));omega)) only[go_sem,simprocAttr,↓reduceIte,↓Nat.reduceEqDiff,xx,fd92,m92,nsI_length,c0]
  rw[iter_to (SwI f l) l.length (by unfold LF;omega)]
  . rw[SwI,zpre_all]
    simp(disch:=((fail_if_success (intro _));omega)) only[go_sem,simprocAttr,↓reduceIte,↓Nat.reduceEqDiff,xx,nsI_length,bytesAV_length]
  . simp(disch:=((fail_if_success (intro _));omega)) only[go_sem,simprocAttr,↓reduceIte,↓Nat.reduceEqDiff,xx,SwI,zpre_0,nsI_length]
  . exact hs
  . rw[SwI,zpre_all]
    simp(disch:=((fail_if_success (intro _));omega)) only[go_sem,simprocAttr,↓reduceIte,↓Nat.reduceEqDiff,xx,nsI_length,bytesAV_length]
 rw[call_go (fd:=fd81) rfl]
 generalize zints l=z at *
 simp(disch:=((fail_if_success (intro _));omega)) only[go_sem,simprocAttr,↓reduceIte,↓Nat.reduceEqDiff,xx,fd81,m81,cl,e2,noImms_bytesAV]
def LrI :MC:=match m84 with| .seq _ (.seq _ (.seq (.seq _ (.block _ (.loop _ b))) _))=>b|_=>.skip
def SrI (f:Bool)(l:List Int)(i:Nat):St :=
 ⟨[.set 4 (.int .i64 i),.set 3 (.sl 5003 [] 0 (zpre l i).length),.set 0 (.lst f .sc (nsI l))],[(5003,.grow .sc (bytesAV (zpre l i)))]⟩
theorem rints_ok {n:Nat}(h:2<=n)(f:Bool)(l:List Int)(hl:Few64 l):call gl tab n 84 [.lst f .sc (nsI l)] []=some (.sl 20000 [] 0 (zints l).length,[],[.grow .sc (bytesAV (zints l))]):=by
 obtain⟨d,rfl⟩:=Nat.exists_eq_add_of_le' h
 have h1:=hl.1
 have hs:∀i,i<l.length->contK [.slot 0,.own 3 5003 .sc,.slot 4] (evC gl (call gl tab (d+1)) LrI (SrI f l i))=some (SrI f l (i+1)):=fun i hi=>by
  have hx:=nsI_get hi
  have c:=int54_ok (gl:=gl) d l[i] (few_get hl hi)
  have hz:=zint_len l[i]
  have hp:=zpre_len (l:=l) (i:=i) (by omega)
  have hL:(zpre l i).length+(zint l[i]).length<=LIM:=by unfold LIM;omega
  rw[SrI,SrI,zpre_s hi,bytesAV_append,List.length_append]
  generalize zpre l i=p at *
  generalize zint l[i]=q at *
  simp(disch:=((fail_if_success (intro _));omega)) only[go_sem,simprocAttr,↓reduceIte,↓Nat.reduceEqDiff,xx,LrI,m84,hx,nsI_length,c,bytesAV_length,hL]
 simp only[LrI,m84]at hs
 have c0:=int54_ok (gl:=gl) d (l.length:Int) (by omega)
 rw[call_go (fd:=fd84) rfl]
 simp(disch:=((fail_if_success (intro _));omega)) only[go_sem,simprocAttr,↓reduceIte,↓Nat.reduceEqDiff,xx,fd84,m84,nsI_length,c0]
 rw[iter_to (SrI f l) l.length (by unfold LF;omega)]
 . rw[SrI,zpre_all]
   simp(disch:=((fail_if_success (intro _));omega)) only[go_sem,simprocAttr,↓reduceIte,↓Nat.reduceEqDiff,xx,nsI_length,bytesAV_length]
 . simp(disch:=((fail_if_success (intro _));omega)) only[go_sem,simprocAttr,↓reduceIte,↓Nat.reduceEqDiff,xx,SrI,zpre_0,nsI_length]
 . exact hs
 . rw[SrI,zpre_all]
   simp(disch:=((fail_if_success (intro _));omega)) only[go_sem,simprocAttr,↓reduceIte,↓Nat.reduceEqDiff,xx,nsI_length,bytesAV_length]
end Go.Proofs.S30.H
