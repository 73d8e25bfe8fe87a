/-
  Chapter 3: checking the proof of a beginning. No condition.
-/
import Derived.Test.YthelhoikbegjlaaDoorW03G13x8
set_option linter.unusedVariables false
set_option linter.unusedSimpArgs false
set_option linter.unusedSectionVars false
namespace Go.Proofs.S03
open Go Go.Ev Go.Proofs Go.Mk
open Go.Proofs.S03.H (GlK GlR)
variable {gl :Gl} {n:Nat}
theorem d26A :dd26.mA=[m26_0,m26_1,m26_2]:=rfl
theorem d26B :dd26.mB=m26B:=rfl
theorem d26fos :dd26.fos=[(.o 29 (.l 11))]:=rfl
theorem d26args :dd26.dargs=[(.t 29),(.t 10)]:=rfl
theorem d26fS :dd26.fS=47:=rfl
theorem d26fd :dd26.fd=fd47:=rfl
theorem d26slots :dd26.slots=[0,1,7,8,10,11]:=rfl
theorem d26d :dd26.d=41000:=rfl
theorem d26dd :dd26.dd=51000:=rfl
theorem d26res :dd26.res=[.cell 10 false 1]:=rfl
theorem checkC_bad (h:2<=n){old root:Dg}{m N:Int}{f:Bool}{sh:Sh}{p:List Dg}(hb:m<0\/m>N\/N>1099511627776)(hf:old.length=16)(hr:root.length=16) :
  call gl tab n 26 [i64 m,i64 N,bAV old,bAV root,.lst f sh (dgL p)] []=some (.bool false,[],[]):=by
 obtain⟨d,rfl⟩:=Nat.exists_eq_add_of_le' h
 have l1:=b16t hf
 have l2:=H.bytes_all old
 have r1:=b16t hr
 have r2:=H.bytes_all root
 rw[call_df (fd:=fd26) rfl]
 by_cases h1:m<0
 . simp(disch:=((fail_if_success (intro _));omega)) only[go_sem,simprocAttr,↓reduceIte,↓Nat.reduceEqDiff,xx,d26A,d26B,d26fos,d26args,d26fS,d26fd,d26slots,d26d,d26dd,d26res,m26_0,m26_1,↓out16_eq,H.out16_len,H.out16_all,H.out16_pl,hf,hr,l1,l2,r1,r2]
 by_cases h2:m>N
 . simp(disch:=((fail_if_success (intro _));omega)) only[go_sem,simprocAttr,↓reduceIte,↓Nat.reduceEqDiff,xx,d26A,d26B,d26fos,d26args,d26fS,d26fd,d26slots,d26d,d26dd,d26res,m26_0,m26_1,↓out16_eq,H.out16_len,H.out16_all,H.out16_pl,hf,hr,l1,l2,r1,r2]
 have h3:N>1099511627776:=by omega
 simp(disch:=((fail_if_success (intro _));omega)) only[go_sem,simprocAttr,↓reduceIte,↓Nat.reduceEqDiff,xx,d26A,d26B,d26fos,d26args,d26fS,d26fd,d26slots,d26d,d26dd,d26res,m26_0,m26_1,↓out16_eq,H.out16_len,H.out16_all,H.out16_pl,hf,hr,l1,l2,r1,r2]
section
variable [Nonempty (GlK gl)]
theorem body26_zero (h:59<=n){old root:Dg}{N:Nat}{f:Bool}{sh:Sh}{p:List Dg}(hN2:N<=1099511627776)(hf:old.length=16)(hr:root.length=16)(hl:p.length<=1000000) :
  ∃hp,evDfB dd26 gl (call gl tab n) [i64 0,i64 N,.ptr 100000 [],.ptr 100001 [],.ptr 100002 [],.ptr 100003 []] [.ptr 100004 [],.ptr 100002 []]
   [(100000,.fix (.ar 16 .sc) (bAV old)),(100001,.fix (.ar 16 .sc) (bAV root)),(100002,.fix .sc (.bool false)),(100003,.fix .sc (.ptr 100004 [])),(100004,PS f sh p false)] =
   some (.bool (decide (p.length=0/\old=em)),[(100000,.fix (.ar 16 .sc) (bAV old)),(100001,.fix (.ar 16 .sc) (bAV root)),(100002,.fix .sc (.bool (decide (p.length=0/\old=em)))),(100003,.fix .sc (.ptr 100004 [])),(100004,hp)],[]):=by
 have l1:=b16t hf
 have l2:=H.bytes_all old
 have r1:=b16t hr
 have r2:=H.bytes_all root
 have e:=@empty_at gl n _ (by omega)
 have e1:=em_len
 have e2:=H.bytes_all em
 have c2:=eqB hf e1
 have hD:(decide (old=em)&& !false&&decide (p.length=0))=decide (p.length=0/\old=em):=by
  rw[Bool.eq_iff_iff];simp[and_comm]
 have st1:=@settle_at gl dd26 d26fd (call gl tab n) 47 f sh p false (decide (old=em))
 rw[hD]at st1
 refine⟨PS f sh p false,?_⟩
 generalize decide (p.length=0/\old=em)=b2 at *
 generalize hb:decide (old=em)=b at *
 generalize em=q at *
 rw[evDfB_at]
 simp(disch:=((fail_if_success (intro _));omega)) only[go_sem,simprocAttr,↓reduceIte,↓Nat.reduceEqDiff,xx,d26A,d26B,d26fos,d26args,d26fS,d26fd,d26slots,d26d,d26dd,d26res,m26B,hf,hr,l1,l2,r1,r2,e,e1,e2,c2,fn_scalar,st1]
theorem body26 (h:59<=n){old root:Dg}{m N:Nat}{f:Bool}{sh:Sh}{p:List Dg}(hm:1<=m)(hN:m<=N)(hN2:N<=1099511627776)(hf:old.length=16)(hr:root.length=16)(ha:All16 p)(hl:p.length<=1000000)(hs:Sd p sh sB) :
  ∃hp,evDfB dd26 gl (call gl tab n) [i64 m,i64 N,.ptr 100000 [],.ptr 100001 [],.ptr 100002 [],.ptr 100003 []] [.ptr 100004 [],.ptr 100002 []]
   [(100000,.fix (.ar 16 .sc) (bAV old)),(100001,.fix (.ar 16 .sc) (bAV root)),(100002,.fix .sc (.bool false)),(100003,.fix .sc (.ptr 100004 [])),(100004,PS f sh p false)] =
   some (.bool (decide (p.length=depC m N true/\clc old m N true p=(old,root))),[(100000,.fix (.ar 16 .sc) (bAV old)),(100001,.fix (.ar 16 .sc) (bAV root)),(100002,.fix .sc (.bool (decide (p.length=depC m N true/\clc old m N true p=(old,root))))),(100003,.fix .sc (.ptr 100004 [])),(100004,hp)],[]):=by
 have l1:=b16t hf
 have l2:=H.bytes_all old
 have r1:=b16t hr
 have r2:=H.bytes_all root
 have h40:N<=2^40:=by have:(2:Nat)^40=1099511627776:=by decide
                      omega
 obtain⟨f2,a⟩:=@climbC_at gl _ 40 n old m N true f sh p false hf h40 hm hN (by omega) (by omega) ha hl hs
 obtain⟨u1,v1⟩:=@clc_len old hf _ m N true p (Nat.le_refl _) hm hN ha
 have u2:=H.bytes_all (clc old m N true p).1
 have v2:=H.bytes_all (clc old m N true p).2
 have c1:=eqB u1 hf
 have c2:=eqB v1 hr
 have hL2:(lft p (depC m N true)).length=p.length-depC m N true:=by rw[lft,List.length_take];omega
 have hS:shr p false (depC m N true)=decide (p.length<depC m N true):=by simp[shr]
 rw[hS]at a
 have hD:((decide ((clc old m N true p).1=old)&&decide ((clc old m N true p).2=root))&& !(decide (p.length<depC m N true))&&decide ((lft p (depC m N true)).length=0))=decide (p.length=depC m N true/\clc old m N true p=(old,root)):=by
  rw[hL2,Bool.eq_iff_iff]
  simp only[Bool.and_eq_true,decide_eq_true_eq,Bool.not_eq_true',decide_eq_false_iff_not,Prod.ext_iff]
  constructor
  . rintro ⟨⟨h1,h2⟩,h3⟩;exact⟨by omega,h1⟩
  . rintro ⟨h1,h2⟩;exact⟨⟨h2,by omega⟩,by omega⟩
 have st:=fun b=>@settle_at gl dd26 d26fd (call gl tab n) 47 f2 sh (lft p (depC m N true)) (decide (p.length<depC m N true)) b
 refine⟨PS f2 sh (lft p (depC m N true)) (decide (p.length<depC m N true)),?_⟩
 generalize clc old m N true p=q at *
 have st1:=st (decide (q.1=old)&&decide (q.2=root))
 rw[hD]at st1
 generalize decide (p.length=depC m N true/\q=(old,root))=b2 at *
 generalize decide (q.1=old)=b at *
 generalize decide (q.2=root)=b' at *
 generalize lft p (depC m N true)=p2 at *
 generalize depC m N true=k at *
 rw[evDfB_at]
 cases b with
 | false =>
   rw[Bool.false_and]at st1
   simp(disch:=((fail_if_success (intro _));omega)) only[go_sem,simprocAttr,↓reduceIte,↓Nat.reduceEqDiff,xx,d26A,d26B,d26fos,d26args,d26fS,d26fd,d26slots,d26d,d26dd,d26res,m26B,↓out16_eq,H.out16_len,H.out16_all,H.out16_pl,hf,hr,l1,l2,r1,r2,a,u1,u2,v1,v2,c1,c2,fn_scalar,st1]
 | true =>
   rw[Bool.true_and]at st1
   simp(disch:=((fail_if_success (intro _));omega)) only[go_sem,simprocAttr,↓reduceIte,↓Nat.reduceEqDiff,xx,d26A,d26B,d26fos,d26args,d26fS,d26fd,d26slots,d26d,d26dd,d26res,m26B,↓out16_eq,H.out16_len,H.out16_all,H.out16_pl,hf,hr,l1,l2,r1,r2,a,u1,u2,v1,v2,c1,c2,fn_scalar,st1]
theorem checkC_zero (h:60<=n){old root:Dg}{N:Nat}{f:Bool}{sh:Sh}{p:List Dg}(hN2:N<=1099511627776)(hf:old.length=16)(hr:root.length=16)(hl:p.length<=1000000) :
  call gl tab n 26 [i64 0,i64 N,bAV old,bAV root,.lst f sh (dgL p)] []=some (.bool (decide (p.length=0/\old=em)),[],[]):=by
 obtain⟨d,rfl⟩:=Nat.exists_eq_add_of_le' h
 have l1:=b16t hf
 have l2:=H.bytes_all old
 have r1:=b16t hr
 have r2:=H.bytes_all root
 obtain⟨hp,a⟩:=@body26_zero gl (d+59) _ (by omega) old root N f sh p hN2 hf hr hl
 generalize decide (p.length=0/\old=em)=b at *
 rw[call_df (fd:=fd26) rfl]
 simp(disch:=((fail_if_success (intro _));omega)) only[go_sem,simprocAttr,↓reduceIte,↓Nat.reduceEqDiff,xx,d26A,d26B,d26fos,d26args,d26fS,d26fd,d26slots,d26d,d26dd,d26res,m26_0,m26_1,m26_2,↓out16_eq,H.out16_len,H.out16_all,H.out16_pl,hf,hr,l1,l2,r1,r2,a]
theorem checkC_ok (h:60<=n){old root:Dg}{m N:Nat}{f:Bool}{sh:Sh}{p:List Dg}(hm:1<=m)(hN:m<=N)(hN2:N<=1099511627776)(hf:old.length=16)(hr:root.length=16)(ha:All16 p)(hl:p.length<=1000000)(hs:Sd p sh sB) :
  call gl tab n 26 [i64 m,i64 N,bAV old,bAV root,.lst f sh (dgL p)] []=some (.bool (decide (p.length=depC m N true/\clc old m N true p=(old,root))),[],[]):=by
 obtain⟨d,rfl⟩:=Nat.exists_eq_add_of_le' h
 have l1:=b16t hf
 have l2:=H.bytes_all old
 have r1:=b16t hr
 have r2:=H.bytes_all root
 obtain⟨hp,a⟩:=@body26 gl (d+59) _ (by omega) old root m N f sh p hm hN hN2 hf hr ha hl hs
 generalize decide (p.length=depC m N true/\clc old m N true p=(old,root))=b at *
 rw[call_df (fd:=fd26) rfl]
 simp(disch:=((fail_if_success (intro _));omega)) only[go_sem,simprocAttr,↓reduceIte,↓Nat.reduceEqDiff,xx,d26A,d26B,d26fos,d26args,d26fS,d26fd,d26slots,d26d,d26dd,d26res,m26_0,m26_1,m26_2,↓out16_eq,H.out16_len,H.out16_all,H.out16_pl,hf,hr,l1,l2,r1,r2,a]
end
end Go.Proofs.S03
namespace Go.Proofs.S03
open Go Go.Ev Go.Proofs Go.Mk
open Go.Proofs.S03.H (GlK GlR)
variable {gl :Gl} {n:Nat}
def pI (l:List Int):List AV:=l.map fun x=>.int .i64 x
def iA (l:List Int)(i:Nat):Int:=l.getD i 0
theorem pI_length (l:List Int):(pI l).length=l.length:=by simp[pI]
theorem pI_at {l:List Int}{i:Nat}(h:i<l.length):(pI l)[i]? =some (.int .i64 (iA l i)):=by simp[pI,iA,h]
theorem pI_take (l:List Int)(k:Nat):List.take k (pI l)=pI (l.take k):=by simp[pI,List.map_take]
theorem pI_drop (l:List Int)(k:Nat):List.drop k (pI l)=pI (l.drop k):=by simp[pI,List.map_drop]
theorem pI_app (l:List Int)(x:Int):pI (l++[x])=pI l++[.int .i64 x]:=by simp[pI]
theorem pI_noImms :∀l:List Int,noImms (pI l)=true
 | []=>rfl
 | x::l=>by rw[pI,List.map_cons,noImms,<-pI,pI_noImms l];rfl
def prv (l:List Int):Nat->Int
 | 0=>-1
 | j+1=>iA l j
theorem prv_zero (l:List Int):prv l 0=-1:=rfl
theorem prv_succ (l:List Int)(j:Nat):prv l (j+1)=iA l j:=rfl
def AscB (l:List Int)(N:Int):Prop:=∀j,j<l.length->prv l j<iA l j/\iA l j<N
abbrev I64s (l:List Int):Prop:=∀x∈l,-9223372036854775808<=x/\x<=9223372036854775807
theorem I64s.at {l:List Int}(h:I64s l){i:Nat}(hi:i<l.length):-9223372036854775808<=iA l i/\iA l i<=9223372036854775807:=by
 rw[iA,List.getD_eq_getElem?_getD,List.getElem?_eq_getElem hi];exact h _ (List.getElem_mem hi)
def L42 :MC:=match m42 with| .seq _ (.seq _ (.seq (.seq _ (.block _ (.loop _ b))) _))=>b|_=>.skip
def S42 (f:Bool)(sh:Sh)(l:List Int)(N:Int)(i:Nat):St:=⟨[.set 10 (i64 i),.set 9 (i64 l.length),.set 8 (.lst f sh (pI l)),.set 5 (i64 (prv l i)),.set 1 (i64 N)],[]⟩
theorem asc_at (h:1<=n){f:Bool}{sh:Sh}{l:List Int}{N:Int}(hl:l.length<=1000000)(hs:Sd l sh .sc) :
  ∃b:Bool,(b=true↔AscB l N)/\call gl tab n 42 [.lst f sh (pI l),i64 N] []=some (.bool b,[],[]):=by
 obtain⟨d,rfl⟩:=Nat.exists_eq_add_of_le' h
 have hL:=pI_length l
 obtain⟨k,hk,hb,he,hit⟩:=iter_fst2 (f:=evC gl (call gl tab d) L42) (ks:=[.slot 1,.slot 5,.slot 8,.slot 9,.slot 10]) (S42 f sh l N) l.length (fun i=>prv l i<iA l i/\iA l i<N) (by unfold LF;omega)
  (fun i hi _ ⟨h1,h2⟩=>by
    have hx:=pI_at hi
    obtain rfl:sh= .sc:=by rcases hs with hs|hs;subst hs;simp at hi;exact hs
    rw[S42,S42,prv_succ]
    generalize prv l i=q at *
    generalize iA l i=x at *
    simp(disch:=((fail_if_success (intro _));omega)) only[go_sem,simprocAttr,↓reduceIte,↓Nat.reduceEqDiff,xx,L42,m42,hL,hx])
  (fun i hi _ h1=>by
    have hx:=pI_at hi
    obtain rfl:sh= .sc:=by rcases hs with hs|hs;subst hs;simp at hi;exact hs
    rw[S42]
    generalize prv l i=q at *
    generalize iA l i=x at *
    by_cases h2:x<=q
    . simp(disch:=((fail_if_success (intro _));omega)) only[go_sem,simprocAttr,↓reduceIte,↓Nat.reduceEqDiff,xx,L42,m42,hL,hx]
    . have h3:x>=N:=by omega
      simp(disch:=((fail_if_success (intro _));omega)) only[go_sem,simprocAttr,↓reduceIte,↓Nat.reduceEqDiff,xx,L42,m42,hL,hx])
  (fun _=>by
    rw[S42]
    simp(disch:=((fail_if_success (intro _));omega)) only[go_sem,simprocAttr,↓reduceIte,↓Nat.reduceEqDiff,xx,L42,m42,hL])
 simp only[L42,m42]at hit
 by_cases hk2:k<l.length
 . have hne:=he hk2
   refine⟨false,⟨(fun h=>by cases h),fun h=>absurd (h k hk2) hne⟩,?_⟩
   have hx:=pI_at hk2
   obtain rfl:sh= .sc:=by rcases hs with hs|hs;subst hs;simp at hk2;exact hs
   rw[call_go (fd:=fd42) rfl]
   simp(disch:=((fail_if_success (intro _));omega)) only[go_sem,simprocAttr,↓reduceIte,↓Nat.reduceEqDiff,xx,fd42,m42,hL]
   rw[hit _ (by rw[S42,prv_zero];simp(disch:=((fail_if_success (intro _));omega)) only[go_sem,simprocAttr,↓reduceIte,↓Nat.reduceEqDiff,xx])]
   rw[S42]
   generalize prv l k=q at *
   generalize iA l k=x at *
   by_cases h2:x<=q
   . simp(disch:=((fail_if_success (intro _));omega)) only[go_sem,simprocAttr,↓reduceIte,↓Nat.reduceEqDiff,xx,hL,hx]
   . have h3:x>=N:=by omega
     simp(disch:=((fail_if_success (intro _));omega)) only[go_sem,simprocAttr,↓reduceIte,↓Nat.reduceEqDiff,xx,hL,hx]
 . obtain rfl:k=l.length:=by omega
   refine⟨true,⟨fun _=>hb,fun _=>rfl⟩,?_⟩
   rw[call_go (fd:=fd42) rfl]
   simp(disch:=((fail_if_success (intro _));omega)) only[go_sem,simprocAttr,↓reduceIte,↓Nat.reduceEqDiff,xx,fd42,m42,hL]
   rw[hit _ (by rw[S42,prv_zero];simp(disch:=((fail_if_success (intro _));omega)) only[go_sem,simprocAttr,↓reduceIte,↓Nat.reduceEqDiff,xx])]
   rw[S42]
   simp(disch:=((fail_if_success (intro _));omega)) only[go_sem,simprocAttr,↓reduceIte,↓Nat.reduceEqDiff,xx,hL]
def L45 :MC:=match m45 with| .seq _ (.seq (.seq _ (.block _ (.loop _ b))) _)=>b|_=>.skip
def S45 (f:Bool)(sh:Sh)(l:List Int)(N:Int)(i:Nat):St:=⟨[.set 5 (i64 i),.set 1 (i64 N),.set 0 (.lst f sh (pI l))],[]⟩
theorem rasc_at (h:1<=n){f:Bool}{sh:Sh}{l:List Int}{N:Int}(hl:l.length<=1000000)(hs:Sd l sh .sc) :
  ∃b:Bool,(b=true↔AscB l N)/\call gl tab n 45 [.lst f sh (pI l),i64 N] []=some (.bool b,[],[]):=by
 obtain⟨d,rfl⟩:=Nat.exists_eq_add_of_le' h
 have hL:=pI_length l
 have nn:∀i,(∀j,j<i->prv l j<iA l j/\iA l j<N)->-1<=prv l i:=by
  intro i
  induction i with
  | zero=>intro _;rw[prv_zero];omega
  | succ i ih =>
    intro hj
    have h1:=ih (fun j hj2=>hj j (by omega))
    have h2:=(hj i (by omega)).1
    rw[prv_succ];omega
 obtain⟨k,hk,hb,he,hit⟩:=iter_fst2 (f:=evC gl (call gl tab d) L45) (ks:=[.slot 0,.slot 1,.slot 5]) (S45 f sh l N) l.length (fun i=>prv l i<iA l i/\iA l i<N) (by unfold LF;omega)
  (fun i hi hj ⟨h1,h2⟩=>by
    have hx:=pI_at hi
    have hn:=nn i hj
    obtain rfl:sh= .sc:=by rcases hs with hs|hs;subst hs;simp at hi;exact hs
    rw[S45,S45]
    cases i with
    | zero =>
      rw[prv_zero]at *
      generalize iA l 0=x at *
      simp(disch:=((fail_if_success (intro _));omega)) only[go_sem,simprocAttr,↓reduceIte,↓Nat.reduceEqDiff,xx,L45,m45,hL,hx]
    | succ i =>
      have hy:=pI_at (show i<l.length by omega)
      have ei:((i+1:Nat):Int)-1=(i:Int):=by omega
      rw[prv_succ]at *
      generalize iA l (i+1)=x at *
      generalize iA l i=y at *
      simp(disch:=((fail_if_success (intro _));omega)) only[go_sem,simprocAttr,↓reduceIte,↓Nat.reduceEqDiff,xx,L45,m45,hL,hx,hy,ei])
  (fun i hi hj h1=>by
    have hx:=pI_at hi
    have hn:=nn i hj
    obtain rfl:sh= .sc:=by rcases hs with hs|hs;subst hs;simp at hi;exact hs
    rw[S45]
    cases i with
    | zero =>
      rw[prv_zero]at *
      generalize iA l 0=x at *
      by_cases h2:x<0
      . simp(disch:=((fail_if_success (intro _));omega)) only[go_sem,simprocAttr,↓reduceIte,↓Nat.reduceEqDiff,xx,L45,m45,hL,hx]
      . have h3:x>=N:=by omega
        simp(disch:=((fail_if_success (intro _));omega)) only[go_sem,simprocAttr,↓reduceIte,↓Nat.reduceEqDiff,xx,L45,m45,hL,hx]
    | succ i =>
      have hy:=pI_at (show i<l.length by omega)
      have ei:((i+1:Nat):Int)-1=(i:Int):=by omega
      rw[prv_succ]at *
      generalize iA l (i+1)=x at *
      generalize iA l i=y at *
      by_cases h2:x<0
      . simp(disch:=((fail_if_success (intro _));omega)) only[go_sem,simprocAttr,↓reduceIte,↓Nat.reduceEqDiff,xx,L45,m45,hL,hx]
      . by_cases h3:x>=N
        . simp(disch:=((fail_if_success (intro _));omega)) only[go_sem,simprocAttr,↓reduceIte,↓Nat.reduceEqDiff,xx,L45,m45,hL,hx]
        . have h4:x<=y:=by omega
          simp(disch:=((fail_if_success (intro _));omega)) only[go_sem,simprocAttr,↓reduceIte,↓Nat.reduceEqDiff,xx,L45,m45,hL,hx,hy,ei])
  (fun _=>by
    rw[S45]
    simp(disch:=((fail_if_success (intro _));omega)) only[go_sem,simprocAttr,↓reduceIte,↓Nat.reduceEqDiff,xx,L45,m45,hL])
 have hit2:=hit
 simp only[L45,m45]at hit
 by_cases hk2:k<l.length
 . have hne:=he hk2
   refine⟨false,⟨(fun h=>by cases h),fun h=>absurd (h k hk2) hne⟩,?_⟩
   have hx:=pI_at hk2
   obtain rfl:sh= .sc:=by rcases hs with hs|hs;subst hs;simp at hk2;exact hs
   rw[call_go (fd:=fd45) rfl]
   simp(disch:=((fail_if_success (intro _));omega)) only[go_sem,simprocAttr,↓reduceIte,↓Nat.reduceEqDiff,xx,fd45,m45,hL]
   rw[hit _ (by rw[S45];simp(disch:=((fail_if_success (intro _));omega)) only[go_sem,simprocAttr,↓reduceIte,↓Nat.reduceEqDiff,xx])]
   rw[S45]
   have hn:=nn k hb
   cases k with
   | zero =>
     rw[prv_zero]at *
     generalize iA l 0=x at *
     by_cases h2:x<0
     . simp(disch:=((fail_if_success (intro _));omega)) only[go_sem,simprocAttr,↓reduceIte,↓Nat.reduceEqDiff,xx,hL,hx]
     . have h3:x>=N:=by omega
       simp(disch:=((fail_if_success (intro _));omega)) only[go_sem,simprocAttr,↓reduceIte,↓Nat.reduceEqDiff,xx,hL,hx]
   | succ i =>
     have hy:=pI_at (show i<l.length by omega)
     have ei:((i+1:Nat):Int)-1=(i:Int):=by omega
     rw[prv_succ]at *
     generalize iA l (i+1)=x at *
     generalize iA l i=y at *
     by_cases h2:x<0
     . simp(disch:=((fail_if_success (intro _));omega)) only[go_sem,simprocAttr,↓reduceIte,↓Nat.reduceEqDiff,xx,hL,hx]
     . by_cases h3:x>=N
       . simp(disch:=((fail_if_success (intro _));omega)) only[go_sem,simprocAttr,↓reduceIte,↓Nat.reduceEqDiff,xx,hL,hx]
       . have h4:x<=y:=by omega
         simp(disch:=((fail_if_success (intro _));omega)) only[go_sem,simprocAttr,↓reduceIte,↓Nat.reduceEqDiff,xx,hL,hx,hy,ei]
 . obtain rfl:k=l.length:=by omega
   refine⟨true,⟨fun _=>hb,fun _=>rfl⟩,?_⟩
   rw[call_go (fd:=fd45) rfl]
   simp(disch:=((fail_if_success (intro _));omega)) only[go_sem,simprocAttr,↓reduceIte,↓Nat.reduceEqDiff,xx,fd45,m45,hL]
   rw[hit _ (by rw[S45];simp(disch:=((fail_if_success (intro _));omega)) only[go_sem,simprocAttr,↓reduceIte,↓Nat.reduceEqDiff,xx])]
   rw[S45]
   simp(disch:=((fail_if_success (intro _));omega)) only[go_sem,simprocAttr,↓reduceIte,↓Nat.reduceEqDiff,xx,hL]
end Go.Proofs.S03
