/-
  Chapter 3: checking several elements: the climb. No condition.
-/
import Derived.Test.YthelhoikbegjlaaDoorW03G17x8
set_option linter.unusedVariables false
set_option linter.unusedSimpArgs false
set_option linter.unusedSectionVars false
namespace Go.Proofs.S03
open Go Go.Ev Go.Proofs Go.Mk
open Go.Proofs.S03.H (GlK GlR)
variable {gl :Gl} {n:Nat}
abbrev wk (a N:Nat)(ps:List Nat)(fs p:List Dg):Dg×List Dg×List Dg:=wlk nd z16 a N ps fs p
theorem wk_drop :∀(c:Nat) {a N:Nat} {ps:List Nat} {fs p:List Dg},N<=c->(wk a N ps fs p).2.1=fs.drop (cntW a N ps).1/\(wk a N ps fs p).2.2=p.drop (cntW a N ps).2
 | c,a,N,ps,fs,p,hc=>by
   by_cases hp:ps=[]
   . subst hp;rw[wk,wlk_nil,cntW_nil];exact⟨rfl,by simp⟩
   . by_cases h2:2<=N
     . match c,hc with
       | 0,hc=>omega
       | c+1,hc =>
         have hk:=spl_lt h2
         have hpp:=spl_pos N
         obtain⟨a1,a2⟩:=@wk_drop c a (spl N) (lows ps (a+spl N)) fs p (by omega)
         obtain⟨b1,b2⟩:=@wk_drop c (a+spl N) (N-spl N) (highs ps (a+spl N)) (wk a (spl N) (lows ps (a+spl N)) fs p).2.1 (wk a (spl N) (lows ps (a+spl N)) fs p).2.2 (by omega)
         rw[wk,wlk_two hp h2,cntW_two hp h2]
         simp only
         rw[b1,b2,a1,a2,List.drop_drop,List.drop_drop]
         exact⟨rfl,rfl⟩
     . rw[wk,wlk_one hp (by omega),cntW_one hp (by omega)];exact⟨by simp,rfl⟩
theorem headD_at {p:List Dg}(h:p≠[]):dgA p 0=p.headD z16:=by
 cases p with
 | nil=>exact absurd rfl h
 | cons x l=>rfl
theorem headD_len {p:List Dg}(ha:All16 p):(p.headD z16).length=16:=by
 cases p with
 | nil=>rfl
 | cons x l=>exact ha x (by simp)
theorem dgL_tail (p:List Dg):List.drop 1 (dgL p)=dgL p.tail:=by rw[dgL_drop,List.drop_one]
theorem first_nil (h:1<=n){f:Bool}{sh:Sh}{s:Bool}:call gl tab n 49 [.ptr 100000 []] [(100000,PS f sh [] s)]=some (bAV z16,[(100000,PS f sh [] true)],[]):=by
 obtain⟨d,rfl⟩:=Nat.exists_eq_add_of_le' h
 show _=some (AV.agg (bytesAV z16),_,_)
 rw[<-z16_av]
 rw[call_gen (fd:=fd49) rfl]
 simp(disch:=((fail_if_success (intro _));omega)) only[go_sem,simprocAttr,↓reduceIte,↓Nat.reduceEqDiff,xx,fd49,m49,↓out16_eq,H.out16_len,H.out16_all,H.out16_pl,dgL_nil]
 rfl
theorem first_some (h:1<=n){p:List Dg}(hp:p≠[])(hl:p.length<=1000000)(ha:All16 p){f:Bool}{s:Bool} :
  call gl tab n 49 [.ptr 100000 []] [(100000,PS f sB p s)]=some (bAV (p.headD z16),[(100000,PS f sB p.tail s)],[]):=by
 obtain⟨d,rfl⟩:=Nat.exists_eq_add_of_le' h
 have h1:=List.length_pos_iff.2 hp
 have hL:=dgL_length p
 have hT:=dgL_all p
 have hD:=dgL_tail p
 have hA:=dgL_at (l:=p) (i:=0) (by omega)
 have q1:=ha.at (i:=0) (by omega)
 rw[headD_at hp]at hA q1
 have q2:=H.bytes_all (p.headD z16)
 generalize p.headD z16=r at *
 rw[call_gen (fd:=fd49) rfl]
 simp(implicitDefEqProofs:=false) (disch:=((fail_if_success (intro _));omega)) only[go_sem,simprocAttr,↓reduceIte,↓Nat.reduceEqDiff,xx,fd49,m49,↓out16_eq,H.out16_len,H.out16_all,H.out16_pl,hL,hT,hD,hA,q1,q2,sB_size]
theorem first_at (h:1<=n){p:List Dg}(hl:p.length<=1000000)(ha:All16 p){f:Bool}{sh:Sh}{s:Bool}(hs:Sd p sh sB) :
  call gl tab n 49 [.ptr 100000 []] [(100000,PS f sh p s)]=some (bAV (p.headD z16),[(100000,PS f sh p.tail (s||decide (p.length<1)))],[]):=by
 by_cases hp0:p=[]
 . subst hp0
   rw[show(s||decide (([]:List Dg).length<1))=true by simp]
   exact first_nil h
 . obtain rfl:sh=sB:=by rcases hs with hs|hs;exact absurd hs hp0;exact hs
   have:=List.length_pos_iff.2 hp0
   rw[show decide (p.length<1)=false from decide_eq_false (by omega),Bool.or_false]
   exact first_some h hp0 hl ha
abbrev CM (f:Bool)(sh:Sh)(p:List Dg)(s:Bool)(f2:Bool)(sh2:Sh)(fs:List Dg)(s2:Bool):Hp :=
 [(100000,.fix .sc (.ptr 100001 [])),(100001,PS f sh p s),(100002,.fix .sc (.ptr 100003 [])),(100003,PS f2 sh2 fs s2),(100004,.fix .sc (.fn 48 [.ptr 100000 [],.ptr 100002 [],.ptr 100004 []]))]
theorem wk_len :∀{a N:Nat} {ps:List Nat} {fs p:List Dg},All16 fs->All16 p->(wk a N ps fs p).1.length=16:=by
 intro a N ps fs p hf hp
 by_cases h:ps=[]
 . subst h;rw[wk,wlk_nil];exact headD_len hp
 . by_cases h2:2<=N
   . rw[wk,wlk_two h h2];exact nd_len _ _
   . rw[wk,wlk_one h (by omega)];exact headD_len hf
section
variable [Nonempty (GlK gl)]
theorem climbM_nil (h:2<=n){a N:Nat}{g:Bool}{shp:Sh}{f f2:Bool}{sh sh2:Sh}{p fs:List Dg}{s s2:Bool}(ha:All16 p)(hl:p.length<=1000000)(hs:Sd p sh sB) :
  call gl tab n 48 [i64 a,i64 N,.lst g shp [],.ptr 100000 [],.ptr 100002 [],.ptr 100004 []] (CM f sh p s f2 sh2 fs s2)=some (bAV (p.headD z16),CM f sh p.tail (s||decide (p.length<1)) f2 sh2 fs s2,[]):=by
 obtain⟨d,rfl⟩:=Nat.exists_eq_add_of_le' h
 have key:=@first_at gl (d+1) (by omega) p hl ha f sh s hs
 have g1:=headD_len ha
 have g2:=H.bytes_all (p.headD z16)
 generalize p.headD z16=r at *
 generalize (s||decide (p.length<1))=s' at *
 rw[call_gen (fd:=fd48) rfl]
 simp(disch:=((fail_if_success (intro _));omega)) only[go_sem,simprocAttr,↓reduceIte,↓Nat.reduceEqDiff,xx,fd48,m48,↓out16_eq,H.out16_len,H.out16_all,H.out16_pl,key,g1,g2]
theorem climbM_one (h:2<=n){a:Nat}{ps:List Nat}{g:Bool}{shp:Sh}{f f2:Bool}{sh sh2:Sh}{p fs:List Dg}{s s2:Bool}(hp:ps≠[])(hpl:ps.length<=1000000)(ha:All16 fs)(hl:fs.length<=1000000)(hs:Sd fs sh2 sB) :
  call gl tab n 48 [i64 a,i64 1,.lst g shp (pN ps),.ptr 100000 [],.ptr 100002 [],.ptr 100004 []] (CM f sh p s f2 sh2 fs s2)=some (bAV (fs.headD z16),CM f sh p s f2 sh2 fs.tail (s2||decide (fs.length<1)),[]):=by
 obtain⟨d,rfl⟩:=Nat.exists_eq_add_of_le' h
 have key:=@first_at gl (d+1) (by omega) fs hl ha f2 sh2 s2 hs
 have g1:=headD_len ha
 have g2:=H.bytes_all (fs.headD z16)
 have hP:=pN_length ps
 have hp0:=List.length_pos_iff.2 hp
 generalize fs.headD z16=r at *
 generalize (s2||decide (fs.length<1))=s' at *
 rw[call_gen (fd:=fd48) rfl]
 simp(disch:=((fail_if_success (intro _));omega)) only[go_sem,simprocAttr,↓reduceIte,↓Nat.reduceEqDiff,xx,fd48,m48,↓out16_eq,H.out16_len,H.out16_all,H.out16_pl,key,g1,g2,hP]
end
end Go.Proofs.S03
namespace Go.Proofs.S03
open Go Go.Ev Go.Proofs Go.Mk
open Go.Proofs.S03.H (GlK GlR)
variable {gl :Gl} {n:Nat}
theorem All16.tail {p:List Dg}(h:All16 p):All16 p.tail:=fun x hx=>h x (List.mem_of_mem_tail hx)
theorem Sd.drop {p:List Dg}{sh:Sh}(hs:Sd p sh sB)(k:Nat):Sd (p.drop k) sh sB:=by
 rcases hs with rfl|hs
 . exact Or.inl (by simp)
 . exact Or.inr hs
theorem short2 (p:List Dg)(s:Bool)(j k:Nat):((s||decide (p.length<j))||decide ((p.drop j).length<k))=(s||decide (p.length<j+k)):=by
 rw[List.length_drop,Bool.eq_iff_iff]
 simp only[Bool.or_eq_true,decide_eq_true_eq]
 constructor
 . rintro ((h|h)|h)
   . exact Or.inl h
   . exact Or.inr (by omega)
   . exact Or.inr (by omega)
 . rintro (h|h)
   . exact Or.inl (Or.inl h)
   . by_cases h2:p.length<j
     . exact Or.inl (Or.inr h2)
     . exact Or.inr (by omega)
section
variable [Nonempty (GlK gl)]
theorem climbM_at :∀(c:Nat) {n:Nat} {a N:Nat} {ps:List Nat} {g:Bool} {shp:Sh} {f f2:Bool} {sh sh2:Sh} {p fs:List Dg} {s s2:Bool},N<=2^c->1<=N->c<=58->9+c<=n->All16 p->p.length<=1000000->Sd p sh sB->All16 fs->fs.length<=1000000->Sd fs sh2 sB->ps.length<=1000000->Sd ps shp .sc->Asc ps a N->a+N<=1152921504606846976 ->
  call gl tab n 48 [i64 a,i64 N,.lst g shp (pN ps),.ptr 100000 [],.ptr 100002 [],.ptr 100004 []] (CM f sh p s f2 sh2 fs s2) =
   some (bAV (wk a N ps fs p).1,CM f sh (p.drop (cntW a N ps).2) (s||decide (p.length<(cntW a N ps).2)) f2 sh2 (fs.drop (cntW a N ps).1) (s2||decide (fs.length<(cntW a N ps).1)),[]):=by
 intro c
 induction c with
 | zero =>
   intro n a N ps g shp f f2 sh sh2 p fs s s2 hN h1 hc h ha hl hs ha2 hl2 hs2 hpl hsp hA haN
   obtain rfl:N=1:=by have:(2:Nat)^0=1:=rfl;omega
   by_cases hp:ps=[]
   . subst hp
     rw[wk,wlk_nil,cntW_nil]
     simp only[Nat.not_lt_zero,decide_false,Bool.or_false,List.drop_zero,List.drop_one]
     exact climbM_nil (by omega) ha hl hs
   . rw[wk,wlk_one hp (by omega),cntW_one hp (by omega)]
     simp only[Nat.not_lt_zero,decide_false,Bool.or_false,List.drop_zero,List.drop_one]
     exact climbM_one (by omega) hp hpl ha2 hl2 hs2
 | succ c ih =>
   intro n a N ps g shp f f2 sh sh2 p fs s s2 hN h1 hc h ha hl hs ha2 hl2 hs2 hpl hsp hA haN
   by_cases hp:ps=[]
   . subst hp
     rw[wk,wlk_nil,cntW_nil]
     simp only[Nat.not_lt_zero,decide_false,Bool.or_false,List.drop_zero,List.drop_one]
     exact climbM_nil (by omega) ha hl hs
   by_cases h2:2<=N
   . obtain⟨d,rfl⟩:∃d,n=d+1:=⟨n-1,by omega⟩
     have hk:=spl_lt h2
     have hpp:=spl_pos N
     have hle:=spl_le h2 hN
     have hge:=@spl_ge N
     have k:=@split_at gl d (by omega) N h2 (by omega)
     have hP:=pN_length ps
     have hp0:=List.length_pos_iff.2 hp
     obtain⟨f3,ct⟩:=@cut_at gl d (by omega) g shp ps (a+spl N) (a+N) (Asc.zero hA) hpl (by omega) (by omega) hsp
     have n1:=pN_noImms (lows ps (a+spl N))
     have n2:=pN_noImms (highs ps (a+spl N))
     have u1:=@ih d a (spl N) (lows ps (a+spl N)) true shp f f2 sh sh2 p fs s s2 hle (by omega) (by omega) (by omega) ha hl hs ha2 hl2 hs2 (by have:=lows_le ps (a+spl N);omega) hsp.lows (hA.lows (by omega)) (by omega)
     have u2:=@ih d (a+spl N) (N-spl N) (highs ps (a+spl N)) f3 shp f f2 sh sh2 (p.drop (cntW a (spl N) (lows ps (a+spl N))).2) (fs.drop (cntW a (spl N) (lows ps (a+spl N))).1) (s||decide (p.length<(cntW a (spl N) (lows ps (a+spl N))).2)) (s2||decide (fs.length<(cntW a (spl N) (lows ps (a+spl N))).1)) (by omega) (by omega) (by omega) (by omega) (ha.drop _) (by rw[List.length_drop];omega) (hs.drop _) (ha2.drop _) (by rw[List.length_drop];omega) (hs2.drop _) (by have:=highs_le ps (a+spl N);omega) hsp.highs (hA.highs (by omega)) (by omega)
     rw[short2,short2,List.drop_drop,List.drop_drop]at u2
     obtain⟨w1,w2⟩:=@wk_drop _ a (spl N) (lows ps (a+spl N)) fs p (Nat.le_refl _)
     have g1:=@wk_len a (spl N) (lows ps (a+spl N)) fs p ha2 ha
     have g3:=@wk_len (a+spl N) (N-spl N) (highs ps (a+spl N)) (fs.drop (cntW a (spl N) (lows ps (a+spl N))).1) (p.drop (cntW a (spl N) (lows ps (a+spl N))).2) (ha2.drop _) (ha.drop _)
     rw[wk,wlk_two hp h2,cntW_two hp h2,<-wk,w1,w2,<-wk]
     have g2:=H.bytes_all (wk a (spl N) (lows ps (a+spl N)) fs p).1
     have g4:=H.bytes_all (wk (a+spl N) (N-spl N) (highs ps (a+spl N)) (fs.drop (cntW a (spl N) (lows ps (a+spl N))).1) (p.drop (cntW a (spl N) (lows ps (a+spl N))).2)).1
     have e:=@node_at gl d _ (by omega) _ _ g1 g3
     have e3:=nd_len (wk a (spl N) (lows ps (a+spl N)) fs p).1 (wk (a+spl N) (N-spl N) (highs ps (a+spl N)) (fs.drop (cntW a (spl N) (lows ps (a+spl N))).1) (p.drop (cntW a (spl N) (lows ps (a+spl N))).2)).1
     have e4:=H.bytes_all (nd (wk a (spl N) (lows ps (a+spl N)) fs p).1 (wk (a+spl N) (N-spl N) (highs ps (a+spl N)) (fs.drop (cntW a (spl N) (lows ps (a+spl N))).1) (p.drop (cntW a (spl N) (lows ps (a+spl N))).2)).1)
     have ek:(a:Int)+(spl N:Int)=((a+spl N:Nat):Int):=by omega
     have eN:(N:Int)-(spl N:Int)=((N-spl N:Nat):Int):=by omega
     simp only
     generalize nd (wk a (spl N) (lows ps (a+spl N)) fs p).1 (wk (a+spl N) (N-spl N) (highs ps (a+spl N)) (fs.drop (cntW a (spl N) (lows ps (a+spl N))).1) (p.drop (cntW a (spl N) (lows ps (a+spl N))).2)).1=q at *
     generalize (wk (a+spl N) (N-spl N) (highs ps (a+spl N)) (fs.drop (cntW a (spl N) (lows ps (a+spl N))).1) (p.drop (cntW a (spl N) (lows ps (a+spl N))).2)).1=qb at *
     generalize (wk a (spl N) (lows ps (a+spl N)) fs p).1=qa at *
     have x1:∀k,(p.drop k).length<=1000000:=fun k=>by rw[List.length_drop];omega
     generalize (cntW (a+spl N) (N-spl N) (highs ps (a+spl N)))=j2 at *
     generalize (cntW a (spl N) (lows ps (a+spl N)))=j1 at *
     generalize (s||decide (p.length<j1.2+j2.2))=t1 at *
     generalize (s2||decide (fs.length<j1.1+j2.1))=t2 at *
     generalize (s||decide (p.length<j1.2))=t3 at *
     generalize (s2||decide (fs.length<j1.1))=t4 at *
     clear hA ih
     generalize lows ps (a+spl N)=q1 at *
     generalize highs ps (a+spl N)=q2 at *
     generalize a+spl N=a2 at *
     generalize spl N=z at *
     rw[call_gen (fd:=fd48) rfl]
     simp(implicitDefEqProofs:=false) (disch:=((fail_if_success (intro _));omega)) only[go_sem,simprocAttr,↓reduceIte,↓Nat.reduceEqDiff,xx,fd48,m48,↓out16_eq,H.out16_len,H.out16_all,H.out16_pl,k,ct,u1,u2,e,e3,e4,g1,g2,g3,g4,hP,n1,n2,ek,eN]
   . obtain rfl:N=1:=by omega
     rw[wk,wlk_one hp (by omega),cntW_one hp (by omega)]
     simp only[Nat.not_lt_zero,decide_false,Bool.or_false,List.drop_zero,List.drop_one]
     exact climbM_one (by omega) hp hpl ha2 hl2 hs2
end
end Go.Proofs.S03
