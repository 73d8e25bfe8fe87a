/-
  Chapter 3: checking the proof of an element. No condition.
-/
import Derived.Test.YthelhoikbegjlaaDoorW03G12x8
set_option linter.unusedVariables false
set_option linter.unusedSimpArgs false
set_option linter.unusedSectionVars false
namespace Go.Proofs.S03
open Go Go.Ev Go.Proofs Go.Mk
open Go.Proofs.S03.H (GlK GlR)
variable {gl :Gl} {n:Nat}
theorem d25A :dd25.mA=[m25_0,m25_1,m25_2]:=rfl
theorem d25B :dd25.mB=m25B:=rfl
theorem d25fos :dd25.fos=[(.o 31 (.l 11))]:=rfl
theorem d25args :dd25.dargs=[(.t 31),(.t 10)]:=rfl
theorem d25fS :dd25.fS=47:=rfl
theorem d25fd :dd25.fd=fd47:=rfl
theorem d25slots :dd25.slots=[1,2,5,9,10,11]:=rfl
theorem d25d :dd25.d=41000:=rfl
theorem d25dd :dd25.dd=51000:=rfl
theorem d25res :dd25.res=[.cell 10 false 1]:=rfl
theorem checkI_bad (h:2<=n){leaf root:Dg}{i N:Int}{f:Bool}{sh:Sh}{p:List Dg}(hb:N<1\/N>1099511627776\/i<0\/i>=N)(hf:leaf.length=16)(hr:root.length=16) :
  call gl tab n 25 [bAV leaf,i64 i,i64 N,.lst f sh (dgL p),bAV root] []=some (.bool false,[],[]):=by
 obtain⟨d,rfl⟩:=Nat.exists_eq_add_of_le' h
 have l1:=b16t hf
 have l2:=H.bytes_all leaf
 have r1:=b16t hr
 have r2:=H.bytes_all root
 rw[call_df (fd:=fd25) rfl]
 by_cases h1:N<1
 . simp(disch:=((fail_if_success (intro _));omega)) only[go_sem,simprocAttr,↓reduceIte,↓Nat.reduceEqDiff,xx,d25A,d25B,d25fos,d25args,d25fS,d25fd,d25slots,d25d,d25dd,d25res,m25_0,m25_1,↓out16_eq,H.out16_len,H.out16_all,H.out16_pl,hf,hr,l1,l2,r1,r2]
 by_cases h2:N>1099511627776
 . simp(disch:=((fail_if_success (intro _));omega)) only[go_sem,simprocAttr,↓reduceIte,↓Nat.reduceEqDiff,xx,d25A,d25B,d25fos,d25args,d25fS,d25fd,d25slots,d25d,d25dd,d25res,m25_0,m25_1,↓out16_eq,H.out16_len,H.out16_all,H.out16_pl,hf,hr,l1,l2,r1,r2]
 by_cases h3:i<0
 . simp(disch:=((fail_if_success (intro _));omega)) only[go_sem,simprocAttr,↓reduceIte,↓Nat.reduceEqDiff,xx,d25A,d25B,d25fos,d25args,d25fS,d25fd,d25slots,d25d,d25dd,d25res,m25_0,m25_1,↓out16_eq,H.out16_len,H.out16_all,H.out16_pl,hf,hr,l1,l2,r1,r2]
 have h4:i>=N:=by omega
 simp(disch:=((fail_if_success (intro _));omega)) only[go_sem,simprocAttr,↓reduceIte,↓Nat.reduceEqDiff,xx,d25A,d25B,d25fos,d25args,d25fS,d25fd,d25slots,d25d,d25dd,d25res,m25_0,m25_1,↓out16_eq,H.out16_len,H.out16_all,H.out16_pl,hf,hr,l1,l2,r1,r2]
theorem settle_at {D:DfD}(hD:D.fd=fd47){cl:Cl}{k:Nat}{f:Bool}{sh:Sh}{p:List Dg}{s b:Bool} :
  dfS D gl cl k [.ptr 100000 [],.ptr 100001 []] [(100000,PS f sh p s),(100001,.fix .sc (.bool b))]=some (.tup [],[(100000,PS f sh p s),(100001,.fix .sc (.bool (b&& !s&&decide (p.length=0))))],[]):=by
 have hL:=dgL_length p
 rw[dfS_at,hD,if_pos (show(isGen fd47.pk&&mcLt fd47.body)=true from rfl)]
 cases b with
 | false=>simp(disch:=((fail_if_success (intro _));omega)) only[go_sem,simprocAttr,↓reduceIte,↓Nat.reduceEqDiff,xx,fd47,m47,hL]
 | true =>
   cases s with
   | true=>simp(disch:=((fail_if_success (intro _));omega)) only[go_sem,simprocAttr,↓reduceIte,↓Nat.reduceEqDiff,xx,fd47,m47,hL]
   | false =>
     by_cases h0:p.length=0
     . simp(disch:=((fail_if_success (intro _));omega)) only[go_sem,simprocAttr,↓reduceIte,↓Nat.reduceEqDiff,xx,fd47,m47,hL,h0]
     . simp(disch:=((fail_if_success (intro _));omega)) only[go_sem,simprocAttr,↓reduceIte,↓Nat.reduceEqDiff,xx,fd47,m47,hL,h0]
section
variable [Nonempty (GlK gl)]
theorem body25 (h:59<=n){leaf root:Dg}{i N:Nat}{f:Bool}{sh:Sh}{p:List Dg}(hN:1<=N)(hN2:N<=1099511627776)(hi:i<N)(hf:leaf.length=16)(hr:root.length=16)(ha:All16 p)(hl:p.length<=1000000)(hs:Sd p sh sB) :
  ∃hp,evDfB dd25 gl (call gl tab n) [i64 i,i64 N,.ptr 100000 [],.ptr 100001 [],.ptr 100002 [],.ptr 100003 []] [.ptr 100004 [],.ptr 100002 []]
   [(100000,.fix (.ar 16 .sc) (bAV leaf)),(100001,.fix (.ar 16 .sc) (bAV root)),(100002,.fix .sc (.bool false)),(100003,.fix .sc (.ptr 100004 [])),(100004,PS f sh p false)] =
   some (.bool (decide (p.length=dep i N/\cl nd z16 leaf i N p=root)),[(100000,.fix (.ar 16 .sc) (bAV leaf)),(100001,.fix (.ar 16 .sc) (bAV root)),(100002,.fix .sc (.bool (decide (p.length=dep i N/\cl nd z16 leaf i N p=root)))),(100003,.fix .sc (.ptr 100004 [])),(100004,hp)],[]):=by
 have l1:=b16t hf
 have l2:=H.bytes_all leaf
 have r1:=b16t hr
 have r2:=H.bytes_all root
 have h40:N<=2^40:=by have:(2:Nat)^40=1099511627776:=by decide
                      omega
 obtain⟨f2,a⟩:=@climb_at gl _ 40 n leaf i N f sh p false hf h40 hN hi (by omega) (by omega) ha hl hs
 have c1:=@cl_len z16 leaf hf i N p
 have c2:=eqB c1 hr
 have c3:=H.bytes_all (cl nd z16 leaf i N p)
 have hL2:(lft p (dep i N)).length=p.length-dep i N:=by rw[lft,List.length_take];omega
 have hS:shr p false (dep i N)=decide (p.length<dep i N):=by simp[shr]
 rw[hS]at a
 have hD:(decide (cl nd z16 leaf i N p=root)&& !(decide (p.length<dep i N))&&decide ((lft p (dep i N)).length=0))=decide (p.length=dep i N/\cl nd z16 leaf i N p=root):=by
  rw[hL2,Bool.eq_iff_iff]
  simp only[Bool.and_eq_true,decide_eq_true_eq,Bool.not_eq_true',decide_eq_false_iff_not]
  constructor
  . rintro ⟨⟨h1,h2⟩,h3⟩;exact⟨by omega,h1⟩
  . rintro ⟨h1,h2⟩;exact⟨⟨h2,by omega⟩,by omega⟩
 have st:=fun b=>@settle_at gl dd25 d25fd (call gl tab n) 47 f2 sh (lft p (dep i N)) (decide (p.length<dep i N)) b
 refine⟨PS f2 sh (lft p (dep i N)) (decide (p.length<dep i N)),?_⟩
 generalize cl nd z16 leaf i N p=q at *
 have st1:=st (decide (q=root))
 rw[hD]at st1
 generalize decide (p.length=dep i N/\q=root)=b2 at *
 generalize hb:decide (q=root)=b at *
 generalize lft p (dep i N)=p2 at *
 generalize dep i N=k at *
 rw[evDfB_at]
 simp(disch:=((fail_if_success (intro _));omega)) only[go_sem,simprocAttr,↓reduceIte,↓Nat.reduceEqDiff,xx,d25A,d25B,d25fos,d25args,d25fS,d25fd,d25slots,d25d,d25dd,d25res,m25B,hf,hr,l1,l2,r1,r2,a,c1,c2,c3,fn_scalar,st1]
theorem checkI_ok (h:60<=n){leaf root:Dg}{i N:Nat}{f:Bool}{sh:Sh}{p:List Dg}(hN:1<=N)(hN2:N<=1099511627776)(hi:i<N)(hf:leaf.length=16)(hr:root.length=16)(ha:All16 p)(hl:p.length<=1000000)(hs:Sd p sh sB) :
  call gl tab n 25 [bAV leaf,i64 i,i64 N,.lst f sh (dgL p),bAV root] []=some (.bool (decide (p.length=dep i N/\cl nd z16 leaf i N p=root)),[],[]):=by
 obtain⟨d,rfl⟩:=Nat.exists_eq_add_of_le' h
 have l1:=b16t hf
 have l2:=H.bytes_all leaf
 have r1:=b16t hr
 have r2:=H.bytes_all root
 obtain⟨hp,a⟩:=@body25 gl (d+59) _ (by omega) leaf root i N f sh p hN hN2 hi hf hr ha hl hs
 generalize decide (p.length=dep i N/\cl nd z16 leaf i N p=root)=b at *
 rw[call_df (fd:=fd25) rfl]
 simp(disch:=((fail_if_success (intro _));omega)) only[go_sem,simprocAttr,↓reduceIte,↓Nat.reduceEqDiff,xx,d25A,d25B,d25fos,d25args,d25fS,d25fd,d25slots,d25d,d25dd,d25res,m25_0,m25_1,m25_2,↓out16_eq,H.out16_len,H.out16_all,H.out16_pl,hf,hr,l1,l2,r1,r2,a]
end
end Go.Proofs.S03
namespace Go.Proofs.S03
open Go Go.Ev Go.Proofs Go.Mk
open Go.Proofs.S03.H (GlK GlR)
variable {gl :Gl} {n:Nat}
def clc (old:Dg)(m N:Nat)(mark:Bool)(p:List Dg):Dg×Dg:=clC nd z16 old m N mark p
theorem clc_all {old:Dg}{N:Nat}{mark:Bool}{p:List Dg}:clc old N N mark p=if mark then(old,old)else(p.getLastD z16,p.getLastD z16):=clC_all
theorem clc_lo {old:Dg}{m N:Nat}{mark:Bool}{p:List Dg}(h:2<=N)(hn:m≠N)(hm:m<=spl N):clc old m N mark p=((clc old m (spl N) mark p.dropLast).1,nd (clc old m (spl N) mark p.dropLast).2 (p.getLastD z16)):=clC_lo h hn hm
theorem clc_hi {old:Dg}{m N:Nat}{mark:Bool}{p:List Dg}(h:2<=N)(hn:m≠N)(hm:¬m<=spl N):clc old m N mark p=(nd (p.getLastD z16) (clc old (m-spl N) (N-spl N) false p.dropLast).1,nd (p.getLastD z16) (clc old (m-spl N) (N-spl N) false p.dropLast).2):=clC_hi h hn hm
theorem clc_len {old:Dg}(h:old.length=16):∀(c:Nat) {m N:Nat} {mark:Bool} {p:List Dg},N<=c->1<=m->m<=N->All16 p->(clc old m N mark p).1.length=16/\(clc old m N mark p).2.length=16
 | 0,m,N,mark,p,hc,h1,hm,ha=>by omega
 | c+1,m,N,mark,p,hc,h1,hm,ha=>by
   by_cases he:m=N
   . subst he
     rw[clc_all]
     cases mark with
     | true=>exact⟨h,h⟩
     | false=>exact⟨getLastD_len ha,getLastD_len ha⟩
   . have h2:2<=N:=by omega
     have hk:=spl_lt h2
     have hp:=spl_pos N
     by_cases hlo:m<=spl N
     . rw[clc_lo h2 he hlo]
       exact⟨(@clc_len old h c m (spl N) mark p.dropLast (by omega) h1 hlo ha.dropLast).1,nd_len _ _⟩
     . rw[clc_hi h2 he hlo]
       exact⟨nd_len _ _,nd_len _ _⟩
abbrev CC (old:Dg)(f:Bool)(sh:Sh)(p:List Dg)(s:Bool):Hp :=
 [(100000,.fix (.ar 16 .sc) (bAV old)),(100001,.fix .sc (.ptr 100002 [])),(100002,PS f sh p s),(100003,.fix .sc (.fn 53 [.ptr 100000 [],.ptr 100001 [],.ptr 100003 []]))]
theorem last_at (h:1<=n){p:List Dg}(hl:p.length<=1000000)(ha:All16 p){f:Bool}{sh:Sh}{s:Bool}(hs:Sd p sh sB) :
  ∃f1,call gl tab n 52 [.ptr 100000 []] [(100000,PS f sh p s)]=some (bAV (p.getLastD z16),[(100000,PS f1 sh p.dropLast (shr p s 1))],[]):=by
 by_cases hp0:p=[]
 . subst hp0
   refine⟨f,?_⟩
   rw[show shr [] s 1=true by simp[shr]]
   exact last_nil (by omega)
 . obtain rfl:sh=sB:=by rcases hs with hs|hs;exact absurd hs hp0;exact hs
   refine⟨true,?_⟩
   rw[show shr p s 1=s from by rw[shr_succ hp0,shr_zero]]
   exact last_some (by omega) hp0 hl ha
theorem Sd.dropLast {p:List Dg}{sh:Sh}(hs:Sd p sh sB):Sd p.dropLast sh sB:=by
 rcases hs with hs|hs
 . exact Or.inl (by rw[hs];rfl)
 . exact Or.inr hs
theorem shr_more (p:List Dg)(s:Bool)(k:Nat):shr p.dropLast (shr p s 1) k=shr p s (k+1):=by
 by_cases hp0:p=[]
 . subst hp0;simp[shr]
 . rw[shr_succ hp0 s k,shr_succ hp0,shr_zero]
theorem climbC_end (h:2<=n){old:Dg}(hf:old.length=16){m:Nat}{mark:Bool}{f:Bool}{sh:Sh}{p:List Dg}{s:Bool}(hl:p.length<=1000000)(ha:All16 p)(hs:Sd p sh sB) :
  ∃f',call gl tab n 53 [i64 m,i64 m,.bool mark,.ptr 100000 [],.ptr 100001 [],.ptr 100003 []] (CC old f sh p s)=some (.tup [bAV (clc old m m mark p).1,bAV (clc old m m mark p).2],CC old f' sh (lft p (depC m m mark)) (shr p s (depC m m mark)),[]):=by
 obtain⟨d,rfl⟩:=Nat.exists_eq_add_of_le' h
 have q2:=H.bytes_all old
 rw[clc_all,depC_all]
 cases mark with
 | true =>
   refine⟨f,?_⟩
   simp only[if_pos,lft_zero,shr_zero]
   rw[call_gen (fd:=fd53) rfl]
   simp(disch:=((fail_if_success (intro _));omega)) only[go_sem,simprocAttr,↓reduceIte,↓Nat.reduceEqDiff,xx,fd53,m53,↓out16_eq,H.out16_len,H.out16_all,H.out16_pl,hf,q2]
 | false =>
   obtain⟨f1,key⟩:=@last_at gl (d+1) (by omega) p hl ha f sh s hs
   refine⟨f1,?_⟩
   have g1:=getLastD_len ha
   have g2:=H.bytes_all (p.getLastD z16)
   simp only[Bool.false_eq_true,if_false]
   rw[lft_succ,lft_zero]
   generalize p.getLastD z16=r at *
   rw[call_gen (fd:=fd53) rfl]
   simp(disch:=((fail_if_success (intro _));omega)) only[go_sem,simprocAttr,↓reduceIte,↓Nat.reduceEqDiff,xx,fd53,m53,↓out16_eq,H.out16_len,H.out16_all,H.out16_pl,hf,q2,key,g1,g2]
section
variable [Nonempty (GlK gl)]
theorem climbC_at :∀(c:Nat) {n:Nat} {old:Dg} {m N:Nat} {mark:Bool} {f:Bool} {sh:Sh} {p:List Dg} {s:Bool},old.length=16->N<=2^c->1<=m->m<=N->c<=60->9+c<=n->All16 p->p.length<=1000000->Sd p sh sB ->
  ∃f',call gl tab n 53 [i64 m,i64 N,.bool mark,.ptr 100000 [],.ptr 100001 [],.ptr 100003 []] (CC old f sh p s)=some (.tup [bAV (clc old m N mark p).1,bAV (clc old m N mark p).2],CC old f' sh (lft p (depC m N mark)) (shr p s (depC m N mark)),[]):=by
 intro c
 induction c with
 | zero =>
   intro n old m N mark f sh p s hf hN h1 hm hc h ha hl hs
   obtain rfl:m=N:=by have:(2:Nat)^0=1:=rfl;omega
   exact climbC_end (by omega) hf hl ha hs
 | succ c ih =>
   intro n old m N mark f sh p s hf hN h1 hm hc h ha hl hs
   by_cases he:m=N
   . subst he;exact climbC_end (by omega) hf hl ha hs
   obtain⟨d,rfl⟩:∃d,n=d+1:=⟨n-1,by omega⟩
   have h2:2<=N:=by omega
   have hk:=spl_lt h2
   have hp:=spl_pos N
   have hle:=spl_le h2 hN
   have hge:=@spl_ge N
   have h60:2^(c+1)<=2^60:=Nat.pow_le_pow_right (by omega) (by omega)
   have hN60:N<=1152921504606846976:=by have:(2:Nat)^60=1152921504606846976:=by decide
                                        omega
   have k:=@split_at gl d (by omega) N h2 (by omega)
   have q2:=H.bytes_all old
   obtain⟨f1,key⟩:=@last_at gl d (by omega) p hl ha f sh s hs
   have e1:∀k,lft p.dropLast k=lft p (k+1):=fun k=>(lft_succ p k).symm
   have g1:=getLastD_len ha
   have g2:=H.bytes_all (p.getLastD z16)
   by_cases hlo:m<=spl N
   . obtain⟨f2,a⟩:=@ih d old m (spl N) mark f1 sh p.dropLast (shr p s 1) hf hle h1 hlo (by omega) (by omega) ha.dropLast (by rw[List.length_dropLast];omega) hs.dropLast
     rw[e1,shr_more,<-depC_lo h2 he hlo]at a
     obtain⟨u1,v1⟩:=@clc_len old hf _ m (spl N) mark p.dropLast (Nat.le_refl _) h1 hlo ha.dropLast
     have u2:=H.bytes_all (clc old m (spl N) mark p.dropLast).1
     have v2:=H.bytes_all (clc old m (spl N) mark p.dropLast).2
     have e:=@node_at gl d _ (by omega) _ _ v1 g1
     have e3:=nd_len (clc old m (spl N) mark p.dropLast).2 (p.getLastD z16)
     have e4:=H.bytes_all (nd (clc old m (spl N) mark p.dropLast).2 (p.getLastD z16))
     rw[clc_lo h2 he hlo]
     refine⟨f2,?_⟩
     simp only
     generalize nd (clc old m (spl N) mark p.dropLast).2 (p.getLastD z16)=q at *
     generalize clc old m (spl N) mark p.dropLast=qa at *
     generalize p.getLastD z16=r at *
     generalize spl N=z at *
     rw[call_gen (fd:=fd53) rfl]
     simp(implicitDefEqProofs:=false) (disch:=((fail_if_success (intro _));omega)) only[go_sem,simprocAttr,↓reduceIte,↓Nat.reduceEqDiff,xx,fd53,m53,↓out16_eq,H.out16_len,H.out16_all,H.out16_pl,k,key,a,e,e3,e4,g1,g2,q2,hf,u1,u2,v1,v2]
   . have ei:(m:Int)-(spl N:Int)=((m-spl N:Nat):Int):=by omega
     have eN:(N:Int)-(spl N:Int)=((N-spl N:Nat):Int):=by omega
     obtain⟨f2,a⟩:=@ih d old (m-spl N) (N-spl N) false f1 sh p.dropLast (shr p s 1) hf (by omega) (by omega) (by omega) (by omega) (by omega) ha.dropLast (by rw[List.length_dropLast];omega) hs.dropLast
     rw[e1,shr_more,<-depC_hi (mark:=mark) h2 he hlo]at a
     obtain⟨u1,v1⟩:=@clc_len old hf _ (m-spl N) (N-spl N) false p.dropLast (Nat.le_refl _) (by omega) (by omega) ha.dropLast
     have u2:=H.bytes_all (clc old (m-spl N) (N-spl N) false p.dropLast).1
     have v2:=H.bytes_all (clc old (m-spl N) (N-spl N) false p.dropLast).2
     have e:=@node_at gl d _ (by omega) _ _ g1 u1
     have e':=@node_at gl d _ (by omega) _ _ g1 v1
     have e3:=nd_len (p.getLastD z16) (clc old (m-spl N) (N-spl N) false p.dropLast).1
     have e4:=H.bytes_all (nd (p.getLastD z16) (clc old (m-spl N) (N-spl N) false p.dropLast).1)
     have e5:=nd_len (p.getLastD z16) (clc old (m-spl N) (N-spl N) false p.dropLast).2
     have e6:=H.bytes_all (nd (p.getLastD z16) (clc old (m-spl N) (N-spl N) false p.dropLast).2)
     rw[clc_hi h2 he hlo]
     refine⟨f2,?_⟩
     simp only
     generalize nd (p.getLastD z16) (clc old (m-spl N) (N-spl N) false p.dropLast).1=q at *
     generalize nd (p.getLastD z16) (clc old (m-spl N) (N-spl N) false p.dropLast).2=q' at *
     generalize clc old (m-spl N) (N-spl N) false p.dropLast=qa at *
     generalize p.getLastD z16=r at *
     generalize spl N=z at *
     rw[call_gen (fd:=fd53) rfl]
     simp(implicitDefEqProofs:=false) (disch:=((fail_if_success (intro _));omega)) only[go_sem,simprocAttr,↓reduceIte,↓Nat.reduceEqDiff,xx,fd53,m53,↓out16_eq,H.out16_len,H.out16_all,H.out16_pl,k,key,a,e,e',e3,e4,e5,e6,g1,g2,q2,hf,u1,u2,v1,v2,ei,eN]
end
end Go.Proofs.S03
