/-
  Chapter 4: what Check answers, in both. No condition.
-/
import Derived.Test.YtcddalfeicoedaaGreatDoorW44G6x7
import Derived.Test.YtcddalfeicoedaaGreatDoorW44G5x7
set_option linter.unusedVariables false
set_option linter.unusedSimpArgs false
set_option linter.unusedSectionVars false
namespace Go.Proofs.S44
open Go Go.Ev Go.Proofs
open Go.Proofs.S44.H (strsAV zab zan Sml GlK GlR)
variable {gl :Gl} {n:Nat}
theorem eqB_all :∀(a b:List UInt8),a.length=b.length->eqAll ((zac a).zip (zac b)) (fun p=>eqAV .it p.1 p.2)=some (decide (a=b))
 | [],[],_=>rfl
 | x::a,y::b,h=>by
   have ih:=eqB_all a b (by simpa using h)
   simp only[zac,List.map_cons,List.zip_cons_cons,eqAll,eqAV,if_pos,Option.bind_some]
   simp only[zac]at ih
   rw[ih]
   by_cases e:x=y
   . subst e;simp
   . have:((x.toNat:Int)==(y.toNat:Int))=false:=by
      rw[beq_eq_false_iff_ne];intro h2
      exact e (UInt8.toNat_inj.1 (by omega))
     rw[this];simp[e]
 | [],_::_,h=>by simp at h
 | _::_,[],h=>by simp at h
theorem eqB {a b:List UInt8}(ha:a.length=16)(hb:b.length=16):eqAV (.ar 16 .it) (.agg (zac a)) (.agg (zac b))=some (decide (a=b)):=by
 have:=eqB_all a b (by omega)
 rw[eqAV,if_pos ⟨by rw[zaa];exact ha,by rw[zaa];exact hb⟩]
 exact this
def fnK (l:List Ky)(p s:Int):Option Ky:=l.find? fun x=>x.p==p&&x.s==s
theorem fnK_is {l:List Ky}(hv:VR l){p s:Int}{k:Nat}(hk:Is l p s k):fnK l p s=some (yat l k):=by
 unfold fnK
 rw[List.find?_eq_some_iff_getElem]
 refine⟨by rw[Bool.and_eq_true,beq_iff_eq,beq_iff_eq];exact hk.2,k,hk.1,(yat_eq hk.1).symm,fun j hj=> ?_⟩
 have hj2:j<l.length:=by have:=hk.1;omega
 rw[Bool.not_eq_true',Bool.and_eq_false_iff]
 by_cases h1:l[j].p=p
 . right;rw[beq_eq_false_iff_ne];intro h2
   have:=is_one hv ⟨hj2,by rw[yat_eq hj2];exact h1,by rw[yat_eq hj2];exact h2⟩ hk
   omega
 . left;rw[beq_eq_false_iff_ne];exact h1
theorem fnK_no {l:List Ky}{p s:Int}(hk:∀k,¬Is l p s k):fnK l p s=none:=by
 unfold fnK
 rw[List.find?_eq_none]
 intro x hx
 obtain⟨j,hj,rfl⟩:=List.getElem_of_mem hx
 rw[Bool.and_eq_true,beq_iff_eq,beq_iff_eq]
 rintro ⟨h1,h2⟩
 exact hk j ⟨hj,by rw[yat_eq hj];exact h1,by rw[yat_eq hj];exact h2⟩
def ckE (l:List Ky)(p s tag:Int)(ps:List (List UInt8))(sl:List UInt8)(lo hi:Int):Int :=
 match fnK l p s with
 | none=>5
 | some x=>if cnt x lo hi=true then(if sea x.k tag ps=sl then 0 else 8)else 9
section
variable {f :Bool} {m:Sh} {l:List Ky} {p s:Int} {sl:List UInt8} {ps:List (List UInt8)} {fp:Bool}
theorem check_at [Nonempty (GlK gl)](h:10<=n)(hm:Mk l m)(hv:VR l)(hp:R64 p)(hs:R64 s)(tag:Int)(hps:Pts ps)(hsl:sl.length=16)(lo hi:Int) :
  call gl tab n 118 [.lst f m (ks l),i64 p,i64 s,i64 tag,.lst fp .sc (strsAV ps),.agg (zac sl),.agg [i64 lo,i64 hi]] []=some (i64 (ckE l p s tag ps sl lo hi),[],[]):=by
 obtain⟨d,rfl⟩:=Nat.exists_eq_add_of_le' h
 have b1:(zac sl).length=16:=by rw[zaa];exact hsl
 have b2:=H.bytes_all sl
 rcases @pfinds gl (d+9) (by omega) f m l hm hv p s hp hs with ⟨k,hk,c16⟩|⟨hno,c16⟩
 . have e:=fnK_is hv hk
   have hvk:=(hv.ok k hk.1).v.k
   have c62:=@counts_at gl (d+9) (by omega) (yat l k) lo hi
   have c23:=@make_at gl (d+9) _ (by omega) (yat l k) (by omega) tag fp ps hps
   have d1:=zi9 (yat l k).k tag ps
   have d2:=zja (yat l k).k tag ps
   have eq:=eqB (sea_len (yat l k).k tag ps) hsl
   rw[show zac (sea (yat l k).k tag ps)=sAV (yat l k).k tag ps from rfl]at eq
   unfold ckE
   rw[e]
   simp only
   cases hc:cnt (yat l k) lo hi with
   | false =>
     rw[hc]at c62
     rw[zad (fd:=fd118) rfl]
     simp(disch:=(fail_if_success intro _);omega) only[go_sem,simprocAttr,↓Nat.reduceEqDiff,xx,fd118,m118,c16,c62,b1,b2,Bool.false_eq_true]
   | true =>
     rw[hc]at c62
     by_cases hq:sea (yat l k).k tag ps=sl
     . rw[decide_eq_true hq]at eq
       rw[if_pos rfl,if_pos hq]
       generalize sAV (yat l k).k tag ps=z at *
       generalize zac sl=w at *
       rw[zad (fd:=fd118) rfl]
       simp(disch:=(fail_if_success intro _);omega) only[go_sem,simprocAttr,↓Nat.reduceEqDiff,xx,fd118,m118,c16,c62,b1,b2,c23,d1,d2,eq]
     . rw[decide_eq_false hq]at eq
       rw[if_pos rfl,if_neg hq]
       generalize sAV (yat l k).k tag ps=z at *
       generalize zac sl=w at *
       rw[zad (fd:=fd118) rfl]
       simp(disch:=(fail_if_success intro _);omega) only[go_sem,simprocAttr,↓Nat.reduceEqDiff,xx,fd118,m118,c16,c62,b1,b2,c23,d1,d2,eq]
 . unfold ckE
   rw[fnK_no hno]
   rw[zad (fd:=fd118) rfl]
   simp(disch:=(fail_if_success intro _);omega) only[go_sem,simprocAttr,↓Nat.reduceEqDiff,xx,fd118,m118,c16,b1,b2]
theorem rcheck_at [Nonempty (GlR gl)](h:10<=n)(hm:Mk l m)(hv:VR l)(hp:R64 p)(hs:R64 s)(tag:Int)(hps:Pts ps)(hsl:sl.length=16)(lo hi:Int) :
  call gl tab n 141 [.lst f m (ks l),i64 p,i64 s,i64 tag,.lst fp .sc (strsAV ps),.agg (zac sl),.agg [i64 lo,i64 hi]] []=some (i64 (ckE l p s tag ps sl lo hi),[],[]):=by
 obtain⟨d,rfl⟩:=Nat.exists_eq_add_of_le' h
 have b1:(zac sl).length=16:=by rw[zaa];exact hsl
 have b2:=H.bytes_all sl
 rcases @rfinds gl (d+9) (by omega) f m l hm hv p s hp hs with ⟨k,hk,c17⟩|⟨hno,c17⟩
 . have e:=fnK_is hv hk
   have hvk:=(hv.ok k hk.1).v.k
   have c55:=@rcounts_at gl (d+9) (by omega) (yat l k) lo hi
   have c24:=@rmake_at gl (d+9) _ (by omega) (yat l k) (by omega) tag fp ps hps
   have d1:=zi9 (yat l k).k tag ps
   have d2:=zja (yat l k).k tag ps
   have eq:=eqB (sea_len (yat l k).k tag ps) hsl
   rw[show zac (sea (yat l k).k tag ps)=sAV (yat l k).k tag ps from rfl]at eq
   unfold ckE
   rw[e]
   simp only
   cases hc:cnt (yat l k) lo hi with
   | false =>
     rw[hc]at c55
     rw[zad (fd:=fd141) rfl]
     simp(disch:=(fail_if_success intro _);omega) only[go_sem,simprocAttr,↓Nat.reduceEqDiff,xx,fd141,m141,c17,c55,b1,b2,Bool.false_eq_true]
   | true =>
     rw[hc]at c55
     by_cases hq:sea (yat l k).k tag ps=sl
     . rw[decide_eq_true hq]at eq
       rw[if_pos rfl,if_pos hq]
       generalize sAV (yat l k).k tag ps=z at *
       generalize zac sl=w at *
       rw[zad (fd:=fd141) rfl]
       simp(disch:=(fail_if_success intro _);omega) only[go_sem,simprocAttr,↓Nat.reduceEqDiff,xx,fd141,m141,c17,c55,b1,b2,c24,d1,d2,eq]
     . rw[decide_eq_false hq]at eq
       rw[if_pos rfl,if_neg hq]
       generalize sAV (yat l k).k tag ps=z at *
       generalize zac sl=w at *
       rw[zad (fd:=fd141) rfl]
       simp(disch:=(fail_if_success intro _);omega) only[go_sem,simprocAttr,↓Nat.reduceEqDiff,xx,fd141,m141,c17,c55,b1,b2,c24,d1,d2,eq]
 . unfold ckE
   rw[fnK_no hno]
   rw[zad (fd:=fd141) rfl]
   simp(disch:=(fail_if_success intro _);omega) only[go_sem,simprocAttr,↓Nat.reduceEqDiff,xx,fd141,m141,c17,b1,b2]
end
end Go.Proofs.S44
namespace Go.Proofs.S44.H
open Go Go.Ev Go.Proofs Go.Proofs.S44
variable {gl :Gl}
def nsI (l:List Int):List AV:=l.map fun n=>.int .i64 n
theorem zak (l:List Int):(nsI l).length=l.length:=by simp[nsI]
theorem zdo {l:List Int}{i:Nat}(h:i<l.length):(nsI l)[i]? =some (.int .i64 l[i]):=by simp[nsI,h]
def zbr (l:List Int):Prop:=l.length<=1000/\∀x∈l,-9223372036854775808<=x/\x<=9223372036854775807
theorem few_get {l:List Int}(h:zbr l){i:Nat}(hi:i<l.length):-9223372036854775808<=l[i]/\l[i]<=9223372036854775807:=h.2 _ (List.getElem_mem hi)
def zaj (l:List Int):List UInt8:=zint l.length++(l.map zint).flatten
def zpre (l:List Int)(i:Nat):List UInt8:=zint l.length++((l.take i).map zint).flatten
theorem zpre_0 (l:List Int):zpre l 0=zint l.length:=by simp[zpre]
theorem zie (l:List Int):zpre l l.length=zaj l:=by simp[zpre,zaj]
theorem zpre_s {l:List Int}{i:Nat}(hi:i<l.length):zpre l (i+1)=zpre l i++zint l[i]:=by
 unfold zpre;rw[List.take_succ_eq_append_getElem hi,List.map_append,List.flatten_append,<-List.append_assoc];simp
theorem zkp {l:List Int}:∀{i:Nat},i<=l.length->(zpre l i).length<=10*(i+1)
 | 0,_=>by rw[zpre_0];have:=zav l.length;omega
 | i+1,h=>by
   have h1:=zkp (l:=l) (i:=i) (by omega)
   have h2:=zav l[i]
   rw[zpre_s (by omega),List.length_append];omega
theorem zints_len {l:List Int}:(zaj l).length<=10*(l.length+1):=by rw[<-zie];exact zkp (Nat.le_refl _)
def LwI :MC:=match m153 with| .seq _ (.seq _ (.seq (.seq _ (.block _ (.loop _ b))) _))=>b|_=>.skip
def SwI (f:Bool)(l:List Int)(i:Nat):St :=
 ⟨[.set 13 (.int .i64 i),.set 12 (.int .i64 l.length),.set 11 (.lst f .sc (nsI l)),.set 5 (.sl 5005 [] 0 (zpre l i).length),.set 1 (.fn 154 [])],[(5005,.grow .sc (zac (zpre l i)))]⟩
theorem ints_ok {n:Nat}(h:3<=n)(f:Bool)(l:List Int)(hl:zbr l):call gl tab n 122 [.lst f .sc (nsI l)] []=some (.sl 20000 [] 0 (zaj l).length,[],[.grow .sc (zac (zaj l))]):=by
 obtain⟨d,rfl⟩:=Nat.exists_eq_add_of_le' h
 have h1:=hl.1
 have hs:∀i,i<l.length->zbm [.slot 1,.own 5 5005 .sc,.slot 11,.slot 12,.slot 13] (evC gl (call gl tab (d+1)) LwI (SwI f l i))=some (SwI f l (i+1)):=fun i hi=>by
  have hx:=zdo hi
  have c:=int53_ok (gl:=gl) d l[i] (few_get hl hi)
  have hz:=zav l[i]
  have hp:=zkp (l:=l) (i:=i) (by omega)
  have hL:(zpre l i).length+(zint l[i]).length<=LIM:=by unfold LIM;omega
  rw[SwI,SwI,zpre_s hi,zaf,List.length_append]
  generalize zpre l i=p at *
  generalize zint l[i]=q at *
  simp(disch:=(fail_if_success intro _);omega) only[go_sem,simprocAttr,↓Nat.reduceEqDiff,xx,LwI,m153,hx,zak,c,zaa,hL]
 simp only[LwI,m153]at hs
 have c0:=int53_ok (gl:=gl) d (l.length:Int) (by omega)
 have e2:=zaa (zaj l)
 have cl:call gl tab (d+2) 153 [.lst f .sc (nsI l),.fn 154 []] []=some (.sl 20000 [] 0 (zaj l).length,[],[.grow .sc (zac (zaj l))]):=by
  rw[zad (fd:=fd153) rfl]
  simp(disch:=(fail_if_success intro _);omega) only[go_sem,simprocAttr,↓Nat.reduceEqDiff,xx,fd153,m153,zak,c0]
  rw[zal (SwI f l) l.length (by unfold LF;omega)]
  . rw[SwI,zie]
    simp(disch:=(fail_if_success intro _);omega) only[go_sem,simprocAttr,↓Nat.reduceEqDiff,xx,zak,zaa]
  . simp(disch:=(fail_if_success intro _);omega) only[go_sem,simprocAttr,↓Nat.reduceEqDiff,xx,SwI,zpre_0,zak]
  . exact hs
  . rw[SwI,zie]
    simp(disch:=(fail_if_success intro _);omega) only[go_sem,simprocAttr,↓Nat.reduceEqDiff,xx,zak,zaa]
 rw[zad (fd:=fd122) rfl]
 generalize zaj l=z at *
 simp(disch:=(fail_if_success intro _);omega) only[go_sem,simprocAttr,↓Nat.reduceEqDiff,xx,fd122,m122,cl,e2,noImms_bytesAV]
def LrI :MC:=match m127 with| .seq _ (.seq _ (.seq (.seq _ (.block _ (.loop _ b))) _))=>b|_=>.skip
def SrI (f:Bool)(l:List Int)(i:Nat):St :=
 ⟨[.set 4 (.int .i64 i),.set 3 (.sl 5003 [] 0 (zpre l i).length),.set 0 (.lst f .sc (nsI l))],[(5003,.grow .sc (zac (zpre l i)))]⟩
theorem rints_ok {n:Nat}(h:2<=n)(f:Bool)(l:List Int)(hl:zbr l):call gl tab n 127 [.lst f .sc (nsI l)] []=some (.sl 20000 [] 0 (zaj l).length,[],[.grow .sc (zac (zaj l))]):=by
 obtain⟨d,rfl⟩:=Nat.exists_eq_add_of_le' h
 have h1:=hl.1
 have hs:∀i,i<l.length->zbm [.slot 0,.own 3 5003 .sc,.slot 4] (evC gl (call gl tab (d+1)) LrI (SrI f l i))=some (SrI f l (i+1)):=fun i hi=>by
  have hx:=zdo hi
  have c:=int54_ok (gl:=gl) d l[i] (few_get hl hi)
  have hz:=zav l[i]
  have hp:=zkp (l:=l) (i:=i) (by omega)
  have hL:(zpre l i).length+(zint l[i]).length<=LIM:=by unfold LIM;omega
  rw[SrI,SrI,zpre_s hi,zaf,List.length_append]
  generalize zpre l i=p at *
  generalize zint l[i]=q at *
  simp(disch:=(fail_if_success intro _);omega) only[go_sem,simprocAttr,↓Nat.reduceEqDiff,xx,LrI,m127,hx,zak,c,zaa,hL]
 simp only[LrI,m127]at hs
 have c0:=int54_ok (gl:=gl) d (l.length:Int) (by omega)
 rw[zad (fd:=fd127) rfl]
 simp(disch:=(fail_if_success intro _);omega) only[go_sem,simprocAttr,↓Nat.reduceEqDiff,xx,fd127,m127,zak,c0]
 rw[zal (SrI f l) l.length (by unfold LF;omega)]
 . rw[SrI,zie]
   simp(disch:=(fail_if_success intro _);omega) only[go_sem,simprocAttr,↓Nat.reduceEqDiff,xx,zak,zaa]
 . simp(disch:=(fail_if_success intro _);omega) only[go_sem,simprocAttr,↓Nat.reduceEqDiff,xx,SrI,zpre_0,zak]
 . exact hs
 . rw[SrI,zie]
   simp(disch:=(fail_if_success intro _);omega) only[go_sem,simprocAttr,↓Nat.reduceEqDiff,xx,zak,zaa]
end Go.Proofs.S44.H
namespace Go.Proofs.S44.H
open Go Go.Ev Go.Proofs Go.Proofs.S44
variable {gl :Gl}
def LtX :MC:=match m157 with| .seq _ (.seq _ (.seq (.seq _ (.block _ (.loop _ b))) _))=>b|_=>.skip
def StX (b:List UInt8)(i:Nat):St :=
 ⟨[.set 4 (.int .i64 i),.set 3 (.sl 5003 [] 0 i),.set 1 (.ptr 1 [])],[(1,.fix (.ar 16 .sc) (.agg (zac b))),(5003,.grow .sc (zac (b.take i)))]⟩
theorem text_ok {n:Nat}(h:1<=n)(b:List UInt8)(hb:b.length=16):call gl tab n 157 [.agg (zac b)] []=some (.str b,[],[]):=by
 obtain⟨d,rfl⟩:=Nat.exists_eq_add_of_le' h
 have ha:=bytes_all b
 have hl:(zac b).length=16:=by rw[zaa];exact hb
 have hs:∀i,i<16->zbm [.slot 1,.own 3 5003 .sc,.slot 4,.key 1] (evC gl (call gl tab d) LtX (StX b i))=some (StX b (i+1)):=fun i hi=>by
  have g:=zd3 (l:=b) (i:=i) (by omega)
  have e:b.take (i+1)=b.take i++[b.getD i 0]:=by
   rw[List.take_succ_eq_append_getElem (by omega),List.getD_eq_getElem?_getD,List.getElem?_eq_getElem (by omega)];rfl
  have hp:(zac (b.take i)).length=i:=by rw[zaa,List.length_take];omega
  have hL:i+1<=LIM:=by unfold LIM;omega
  rw[StX,StX,e,zaf,show zac [b.getD i 0]=[.int .u8 ((b.getD i 0).toBitVec.toNat:Int)]from rfl]
  generalize zac (b.take i)=p at *
  simp(disch:=(fail_if_success intro _);omega) only[go_sem,simprocAttr,↓Nat.reduceEqDiff,xx,LtX,m157,g,hl,hp,hL]
 simp only[LtX,m157]at hs
 rw[zad (fd:=fd157) rfl]
 simp(disch:=(fail_if_success intro _);omega) only[go_sem,simprocAttr,↓Nat.reduceEqDiff,xx,fd157,m157,ha,hl]
 rw[zal (StX b) 16 (by unfold LF;omega)]
 . rw[StX,show b.take 16=b from List.take_of_length_le (by omega)]
   simp(disch:=(fail_if_success intro _);omega) only[go_sem,simprocAttr,↓Nat.reduceEqDiff,xx,zaa,hb]
   rw[show List.take 16 (zac b)=zac b from List.take_of_length_le (by omega)]
   simp(disch:=(fail_if_success intro _);omega) only[go_sem,simprocAttr,↓Nat.reduceEqDiff,xx]
 . simp(disch:=(fail_if_success intro _);omega) only[go_sem,simprocAttr,↓Nat.reduceEqDiff,xx,StX,List.take_zero];rfl
 . exact hs
 . simp(disch:=(fail_if_success intro _);omega) only[go_sem,simprocAttr,↓Nat.reduceEqDiff,xx,StX,hl]
end Go.Proofs.S44.H
namespace Go.Proofs.S44
open Go Go.Ev Go.Proofs
open Go.Proofs.S44.H (strsAV zab zan Sml GlK GlR zaj zbr nsI)
variable {gl :Gl} {n:Nat}
theorem ints_at (h:4<=n)(f:Bool)(l:List Int)(hl:zbr l):call gl tab n 125 [.lst f .sc (nsI l)] []=some (.str (zaj l),[],[]):=by
 obtain⟨d,rfl⟩:=Nat.exists_eq_add_of_le' h
 have c:=@H.ints_ok gl (d+3) (by omega) f l hl
 have t:List.take (zaj l).length (zac (zaj l))=zac (zaj l):=List.take_of_length_le (by rw[zaa];exact Nat.le_refl _)
 rw[zad (fd:=fd125) rfl]
 generalize zaj l=z at *
 simp(disch:=(fail_if_success intro _);omega) only[go_sem,simprocAttr,↓Nat.reduceEqDiff,xx,fd125,m125,c,zaa,t]
theorem rints_at (h:4<=n)(f:Bool)(l:List Int)(hl:zbr l):call gl tab n 128 [.lst f .sc (nsI l)] []=some (.str (zaj l),[],[]):=by
 obtain⟨d,rfl⟩:=Nat.exists_eq_add_of_le' h
 have c:=@H.rints_ok gl (d+3) (by omega) f l hl
 have t:List.take (zaj l).length (zac (zaj l))=zac (zaj l):=List.take_of_length_le (by rw[zaa];exact Nat.le_refl _)
 rw[zad (fd:=fd128) rfl]
 generalize zaj l=z at *
 simp(disch:=(fail_if_success intro _);omega) only[go_sem,simprocAttr,↓Nat.reduceEqDiff,xx,fd128,m128,c,zaa,t]
theorem rdig_at (h:2<=n)(b:List UInt8)(hb:b.length=16):call gl tab n 129 [.agg (zac b)] []=some (.str b,[],[]):=by
 obtain⟨d,rfl⟩:=Nat.exists_eq_add_of_le' h
 have c:=@H.text_ok gl (d+1) (by omega) b hb
 have ha:=H.bytes_all b
 have hl:(zac b).length=16:=by rw[zaa];exact hb
 rw[zad (fd:=fd129) rfl]
 generalize zac b=z at *
 simp(disch:=(fail_if_success intro _);omega) only[go_sem,simprocAttr,↓Nat.reduceEqDiff,xx,fd129,m129,c,ha,hl]
abbrev sB :Sh:=.ar 16 .sc
abbrev bAV (b:List UInt8):AV:=.agg (zac b)
theorem b16 {b:List UInt8}(h:b.length=16):(zac b).length=16:=by rw[zaa];exact h
theorem b16t {b:List UInt8}(h:b.length=16):List.take 16 (zac b)=zac b:=List.take_of_length_le (by rw[b16 h];exact Nat.le_refl _)
structure Le where
 site:Int
 ep:Int
 til:Int
 ser:Int
 sgn:List UInt8
abbrev leAV (x:Le):AV:=.agg [i64 x.site,i64 x.ep,i64 x.til,i64 x.ser,bAV x.sgn]
structure LeOk (x:Le):Prop where
 i:zbr [x.site,x.ep,x.til,x.ser]
 s:x.sgn.length=16
def leP (x:Le):List (List UInt8):=[zaj [x.site,x.ep,x.til,x.ser]]
theorem leP_at (h:5<=n)(x:Le)(hx:LeOk x):call gl tab n 77 [leAV x] []=some (.lst false .sc (strsAV (leP x)),[],[]):=by
 obtain⟨d,rfl⟩:=Nat.exists_eq_add_of_le' h
 have c:=@ints_at gl (d+4) (by omega) false _ hx.i
 have b1:=b16 hx.s
 have b2:=H.bytes_all x.sgn
 simp only[nsI,List.map_cons,List.map_nil]at c
 unfold leP
 simp only[strsAV,List.map_cons,List.map_nil]
 generalize zaj _=z at *
 rw[zad (fd:=fd77) rfl]
 simp(disch:=(fail_if_success intro _);omega) only[go_sem,simprocAttr,↓Nat.reduceEqDiff,xx,fd77,m77,c,hx.s,b2]
theorem rleP_at (h:5<=n)(x:Le)(hx:LeOk x):call gl tab n 84 [leAV x] []=some (.lst false .sc (strsAV (leP x)),[],[]):=by
 obtain⟨d,rfl⟩:=Nat.exists_eq_add_of_le' h
 have c:=@rints_at gl (d+4) (by omega) false _ hx.i
 have b1:=b16 hx.s
 have b2:=H.bytes_all x.sgn
 simp only[nsI,List.map_cons,List.map_nil]at c
 unfold leP
 simp only[strsAV,List.map_cons,List.map_nil]
 generalize zaj _=z at *
 rw[zad (fd:=fd84) rfl]
 simp(disch:=(fail_if_success intro _);omega) only[go_sem,simprocAttr,↓Nat.reduceEqDiff,xx,fd84,m84,c,hx.s,b2]
structure Hd where
 site:Int
 size:Int
 root:List UInt8
 lo:Int
 hi:Int
 ser:Int
 sgn:List UInt8
abbrev hdAV (x:Hd):AV:=.agg [i64 x.site,i64 x.size,bAV x.root,.agg [i64 x.lo,i64 x.hi],i64 x.ser,bAV x.sgn]
structure HdOk (x:Hd):Prop where
 i:zbr [x.site,x.size,x.lo,x.hi,x.ser]
 r:x.root.length=16
 s:x.sgn.length=16
def hdP (x:Hd):List (List UInt8):=[zaj [x.site,x.size,x.lo,x.hi,x.ser],x.root]
theorem hdP_at (h:5<=n)(x:Hd)(hx:HdOk x):call gl tab n 111 [hdAV x] []=some (.lst false .sc (strsAV (hdP x)),[],[]):=by
 obtain⟨d,rfl⟩:=Nat.exists_eq_add_of_le' h
 have c:=@ints_at gl (d+4) (by omega) false _ hx.i
 have b1:=b16 hx.s
 have b2:=H.bytes_all x.sgn
 have b3:=b16 hx.r
 have b4:=H.bytes_all x.root
 have b5:=b16t hx.r
 simp only[nsI,List.map_cons,List.map_nil]at c
 unfold hdP
 simp only[strsAV,List.map_cons,List.map_nil]
 generalize zaj _=z at *
 rw[zad (fd:=fd111) rfl]
 simp(implicitDefEqProofs:=false) (disch:=(fail_if_success intro _);omega) only[go_sem,simprocAttr,↓Nat.reduceEqDiff,xx,fd111,m111,c,hx.s,b2,hx.r,b4,b5]
theorem rhdP_at (h:5<=n)(x:Hd)(hx:HdOk x):call gl tab n 114 [hdAV x] []=some (.lst false .sc (strsAV (hdP x)),[],[]):=by
 obtain⟨d,rfl⟩:=Nat.exists_eq_add_of_le' h
 have c:=@rints_at gl (d+4) (by omega) false _ hx.i
 have c2:=@rdig_at gl (d+4) (by omega) x.root hx.r
 have b1:=b16 hx.s
 have b2:=H.bytes_all x.sgn
 have b3:=b16 hx.r
 have b4:=H.bytes_all x.root
 simp only[nsI,List.map_cons,List.map_nil]at c
 unfold hdP
 simp only[strsAV,List.map_cons,List.map_nil]
 generalize zaj _=z at *
 rw[zad (fd:=fd114) rfl]
 simp(implicitDefEqProofs:=false) (disch:=(fail_if_success intro _);omega) only[go_sem,simprocAttr,↓Nat.reduceEqDiff,xx,fd114,m114,c,c2,hx.s,b2,hx.r,b4]
structure Sp where
 addr:List UInt8
 var:List UInt8
 st:Int
 sz:Int
 body:List UInt8
 tags:List UInt8
 lo:Int
 hi:Int
 gate:Int
 ser:Int
 sgn:List UInt8
abbrev spAV (x:Sp):AV:=.agg [.str x.addr,.str x.var,i64 x.st,i64 x.sz,bAV x.body,.str x.tags,.agg [i64 x.lo,i64 x.hi],i64 x.gate,i64 x.ser,bAV x.sgn]
structure SpOk (x:Sp):Prop where
 i:zbr [x.st,x.sz,x.lo,x.hi,x.gate,x.ser]
 r:x.body.length=16
 s:x.sgn.length=16
def spP (x:Sp):List (List UInt8):=[x.addr,x.var,zaj [x.st,x.sz,x.lo,x.hi,x.gate,x.ser],x.body,x.tags]
theorem spP_at (h:5<=n)(x:Sp)(hx:SpOk x):call gl tab n 76 [spAV x] []=some (.lst false .sc (strsAV (spP x)),[],[]):=by
 obtain⟨d,rfl⟩:=Nat.exists_eq_add_of_le' h
 have c:=@ints_at gl (d+4) (by omega) false _ hx.i
 have b1:=b16 hx.s
 have b2:=H.bytes_all x.sgn
 have b3:=b16 hx.r
 have b4:=H.bytes_all x.body
 have b5:=b16t hx.r
 simp only[nsI,List.map_cons,List.map_nil]at c
 unfold spP
 simp only[strsAV,List.map_cons,List.map_nil]
 generalize zaj _=z at *
 rw[zad (fd:=fd76) rfl]
 simp(implicitDefEqProofs:=false) (disch:=(fail_if_success intro _);omega) only[go_sem,simprocAttr,↓Nat.reduceEqDiff,xx,fd76,m76,c,hx.s,b2,hx.r,b4,b5]
theorem rspP_at (h:5<=n)(x:Sp)(hx:SpOk x):call gl tab n 83 [spAV x] []=some (.lst false .sc (strsAV (spP x)),[],[]):=by
 obtain⟨d,rfl⟩:=Nat.exists_eq_add_of_le' h
 have c:=@rints_at gl (d+4) (by omega) false _ hx.i
 have c2:=@rdig_at gl (d+4) (by omega) x.body hx.r
 have b1:=b16 hx.s
 have b2:=H.bytes_all x.sgn
 have b3:=b16 hx.r
 have b4:=H.bytes_all x.body
 simp only[nsI,List.map_cons,List.map_nil]at c
 unfold spP
 simp only[strsAV,List.map_cons,List.map_nil]
 generalize zaj _=z at *
 rw[zad (fd:=fd83) rfl]
 simp(implicitDefEqProofs:=false) (disch:=(fail_if_success intro _);omega) only[go_sem,simprocAttr,↓Nat.reduceEqDiff,xx,fd83,m83,c,c2,hx.s,b2,hx.r,b4]
end Go.Proofs.S44
