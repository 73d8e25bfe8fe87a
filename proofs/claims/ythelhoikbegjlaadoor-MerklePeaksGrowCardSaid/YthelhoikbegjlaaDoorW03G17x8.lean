/-
  Chapter 3: places within a part; the proof of several elements, as specified. No condition.
-/
import Derived.Test.YthelhoikbegjlaaDoorW03n
set_option linter.unusedVariables false
set_option linter.unusedSimpArgs false
set_option linter.unusedSectionVars false
namespace Go.Proofs.S03
open Go Go.Ev Go.Proofs Go.Mk
open Go.Proofs.S03.H (GlK GlR)
variable {gl :Gl} {n:Nat}
def wit (ps:List Nat)(a b:Nat):List Nat:=ps.filter fun x=>decide (a<=x/\x<b)
theorem wit_le (ps:List Nat)(a b:Nat):(wit ps a b).length<=ps.length:=List.length_filter_le _ _
theorem wit_step {ps:List Nat}{a b i:Nat}(hi:i<ps.length):wit (ps.take (i+1)) a b=if a<=nA ps i/\nA ps i<b then wit (ps.take i) a b++[nA ps i]else wit (ps.take i) a b:=by
 rw[List.take_succ_eq_append_getElem hi,wit,List.filter_append,<-nA_eq hi,<-wit]
 by_cases h:a<=nA ps i/\nA ps i<b
 . rw[if_pos h];simp[h]
 . rw[if_neg h];simp[h]
theorem pN_app (ps:List Nat)(x:Nat):pN (ps++[x])=pN ps++[.int .i64 (x:Int)]:=by simp[pN,pI,toI]
def L68 :MC:=match m68 with| .seq _ (.seq _ (.seq (.seq _ (.block _ (.loop _ b))) _))=>b|_=>.skip
def S68 (f:Bool)(sh:Sh)(ps:List Nat)(a b:Nat)(i:Nat):St :=
 ⟨[.set 8 (i64 i),.set 7 (.sl 5007 [] 0 (wit (ps.take i) a b).length),.set 2 (i64 b),.set 1 (i64 a),.set 0 (.lst f sh (pN ps))],[(5007,.grow .sc (pN (wit (ps.take i) a b)))]⟩
theorem within_at (h:1<=n){f:Bool}{sh:Sh}{ps:List Nat}{a b:Nat}(hl:ps.length<=1000000)(hs:Sd ps sh .sc) :
  call gl tab n 68 [.lst f sh (pN ps),i64 a,i64 b] []=some (.lst false .sc (pN (wit ps a b)),[],[]):=by
 obtain⟨d,rfl⟩:=Nat.exists_eq_add_of_le' h
 have hL:=pN_length ps
 have step:∀i,i<ps.length->contK [.slot 0,.slot 1,.slot 2,.own 7 5007 .sc,.slot 8] (evC gl (call gl tab d) L68 (S68 f sh ps a b i))=some (S68 f sh ps a b (i+1)):=fun i hi=>by
  have hx:=pN_at hi
  obtain rfl:sh= .sc:=by rcases hs with hs|hs;subst hs;simp at hi;exact hs
  have hw:=wit_le (ps.take i) a b
  rw[List.length_take]at hw
  have hM:=pN_length (wit (ps.take i) a b)
  have hT:=pN_all (wit (ps.take i) a b)
  have hlim:(wit (ps.take i) a b).length+1<=LIM:=by unfold LIM;omega
  rw[S68,S68,wit_step hi]
  generalize wit (ps.take i) a b=y at *
  generalize nA ps i=x at *
  by_cases h1:a<=x
  . by_cases h2:x<b
    . rw[if_pos ⟨h1,h2⟩,List.length_append,List.length_singleton,pN_app]
      simp(disch:=((fail_if_success (intro _));omega)) only[go_sem,simprocAttr,↓reduceIte,↓Nat.reduceEqDiff,xx,L68,m68,hL,hx,hM,hT]
    . rw[if_neg (fun h=>h2 h.2)]
      simp(disch:=((fail_if_success (intro _));omega)) only[go_sem,simprocAttr,↓reduceIte,↓Nat.reduceEqDiff,xx,L68,m68,hL,hx,hM,hT]
  . rw[if_neg (fun h=>h1 h.1)]
    simp(disch:=((fail_if_success (intro _));omega)) only[go_sem,simprocAttr,↓reduceIte,↓Nat.reduceEqDiff,xx,L68,m68,hL,hx,hM,hT]
 simp only[L68,m68]at step
 have hT:=pN_all (wit ps a b)
 have hM:=pN_length (wit ps a b)
 rw[call_go (fd:=fd68) rfl]
 simp(disch:=((fail_if_success (intro _));omega)) only[go_sem,simprocAttr,↓reduceIte,↓Nat.reduceEqDiff,xx,fd68,m68,hL]
 rw[iter_to (S68 f sh ps a b) ps.length (by unfold LF;omega)]
 . rw[S68,List.take_length]
   generalize wit ps a b=y at *
   simp(disch:=((fail_if_success (intro _));omega)) only[go_sem,simprocAttr,↓reduceIte,↓Nat.reduceEqDiff,xx,hL,hT,hM]
 . rw[S68,List.take_zero]
   simp(disch:=((fail_if_success (intro _));omega)) only[go_sem,simprocAttr,↓reduceIte,↓Nat.reduceEqDiff,xx,wit,List.filter_nil,pN_nil]
 . exact step
 . rw[S68];simp(disch:=((fail_if_success (intro _));omega)) only[go_sem,simprocAttr,↓reduceIte,↓Nat.reduceEqDiff,xx,hL]
theorem wit_all {ps:List Nat}{a k:Nat}(h:Asc ps a k):wit ps a (a+k)=ps:=by
 rw[wit,List.filter_eq_self];intro x hx;exact decide_eq_true (h.wi x hx)
theorem wit_asc {ps:List Nat}{a k N:Nat}(h:Asc ps 0 N):Asc (wit ps a (a+k)) a k :=
 ⟨h.so.filter _,fun x hx=>by simp only[wit,List.mem_filter,decide_eq_true_eq]at hx;exact hx.2⟩
theorem wit_lows {ps:List Nat}{a k z:Nat}(hz:z<=k):wit (wit ps a (a+k)) a (a+z)=lows (wit ps a (a+k)) (a+z):=by
 rw[wit,lows]
 refine List.filter_congr fun x hx=> ?_
 simp only[wit,List.mem_filter,decide_eq_true_eq]at hx
 exact decide_eq_decide.2 ⟨fun h=>h.2,fun h=>⟨hx.2.1,h⟩⟩
theorem wit_highs {ps:List Nat}{a k z:Nat}(hz:z<=k):wit (wit ps a (a+k)) (a+z) (a+z+(k-z))=highs (wit ps a (a+k)) (a+z):=by
 rw[wit,highs]
 refine List.filter_congr fun x hx=> ?_
 simp only[wit,List.mem_filter,decide_eq_true_eq]at hx
 exact decide_eq_decide.2 ⟨fun h=>h.1,fun h=>⟨h,by omega⟩⟩
section
variable [Nonempty (GlR gl)]
theorem rmany_at :∀(c:Nat) {n:Nat} {l:List Dg} {a N:Nat} {ps:List Nat} {f f':Bool} {sh:Sh},l.length<=c->9+c<=n->1<=l.length->All16 l->l.length<=1000000->ps.length<=1000000->a+l.length<=1152921504->Asc ps 0 N->Sd ps sh .sc ->
  ∃g s',call gl tab n 46 [.lst f sB (dgL l),i64 a,.lst f' sh (pN ps)] []=some (.lst g s' (dgL (mn l a (wit ps a (a+l.length)))),[],[])/\Sd (mn l a (wit ps a (a+l.length))) s' sB:=by
 intro c
 induction c with
 | zero=>intro n l a N ps f f' sh hc h h1 ha hl hp haa hA hs;omega
 | succ c ih =>
   intro n l a N ps f f' sh hc h h1 ha hl hpl haa hA hs
   obtain⟨d,rfl⟩:∃d,n=d+1:=⟨n-1,by omega⟩
   have hL:=dgL_length l
   have hT:=dgL_all l
   have l1:1<=LIM:=by unfold LIM;omega
   have ea:(a:Int)+(l.length:Int)=((a+l.length:Nat):Int):=by omega
   have cw:=@within_at gl d (by omega) f' sh ps a (a+l.length) hpl hs
   have hW:=wit_asc (a:=a) (k:=l.length) hA
   have hWl:=wit_le ps a (a+l.length)
   have wl:=fun z (hz:z<=l.length)=>wit_lows (ps:=ps) (a:=a) (k:=l.length) hz
   have wh:=fun z (hz:z<=l.length)=>wit_highs (ps:=ps) (a:=a) (k:=l.length) hz
   have hP:=pN_length (wit ps a (a+l.length))
   have nn:=pN_noImms (wit ps a (a+l.length))
   generalize wit ps a (a+l.length)=qs at *
   by_cases hq:qs=[]
   . subst hq
     have b:=fun f'=>@rroot_at gl _ l.length d l f' sB (by omega) (by omega) ha (by omega) (Or.inr rfl)
     refine⟨false,sB,?_,Or.inr rfl⟩
     rw[mn,mny_nil]
     have rb:=rt_len ha
     have qb:=H.bytes_all (rt nd em l)
     have na:=dgL_noImms [rt nd em l]
     have e1:dgL [rt nd em l]=[.agg (bytesAV (rt nd em l))]:=rfl
     rw[e1]at na ⊢
     simp only[pN_nil]at cw hP nn
     generalize rt nd em l=r at *
     generalize a+l.length=aw at *
     generalize l.length=w at *
     rw[call_go (fd:=fd46) rfl]
     simp(disch:=((fail_if_success (intro _));omega)) only[go_sem,simprocAttr,↓reduceIte,↓Nat.reduceEqDiff,xx,fd46,m46,↓out16_eq,H.out16_len,H.out16_all,H.out16_pl,hL,hT,ea,cw,sB_size,b,rb,qb,na,nn,H.noImms_bytesAV]
   . have hq0:=List.length_pos_iff.2 hq
     by_cases h2:2<=l.length
     . have hk:=spl_lt h2
       have hpp:=spl_pos l.length
       have k:=@rsplit_at gl d (by omega) l.length h2 (by omega)
       have tl:(l.take (spl l.length)).length=spl l.length:=by rw[List.length_take];omega
       have td:(l.drop (spl l.length)).length=l.length-spl l.length:=by rw[List.length_drop]
       have ek:(a:Int)+(spl l.length:Int)=((a+spl l.length:Nat):Int):=by omega
       have i1:=fun f1=>@ih d (l.take (spl l.length)) a _ qs f1 false .sc (by omega) (by omega) (by omega) (ha.take _) (by omega) (by omega) (by omega) (Asc.zero hW) (Or.inr rfl)
       have i2:=fun f1=>@ih d (l.drop (spl l.length)) (a+spl l.length) _ qs f1 false .sc (by omega) (by omega) (by omega) (ha.drop _) (by omega) (by omega) (by omega) (Asc.zero hW) (Or.inr rfl)
       rw[tl,wl _ (by omega)]at i1
       rw[td,wh _ (by omega)]at i2
       have b1:=mn_le _ (l.take (spl l.length)) a (lows qs (a+spl l.length)) (Nat.le_refl _) (by omega)
       have b2:=mn_le _ (l.drop (spl l.length)) (a+spl l.length) (highs qs (a+spl l.length)) (Nat.le_refl _) (by omega)
       rw[tl]at b1
       rw[td]at b2
       rw[mn,mny_two hq h2,<-mn,<-mn]
       simp only[<-dgL_take]at i1
       simp only[<-dgL_drop]at i2
       generalize mn (l.take (spl l.length)) a (lows qs (a+spl l.length))=p1 at *
       generalize mn (l.drop (spl l.length)) (a+spl l.length) (highs qs (a+spl l.length))=p2 at *
       obtain⟨g1,s1,u1,v1⟩:=i1 (f&&spl l.length==l.length)
       obtain⟨g2,s2,u2,v2⟩:=i2 f
       have n1:=dgL_noImms p1
       have n2:=dgL_noImms p2
       have n3:=dgL_noImms (p1++p2)
       have m1:=dgL_length p1
       have m2:=dgL_length p2
       have t1:=dgL_all p1
       have t2:=dgL_all p2
       have hlim0:p1.length<=LIM:=by unfold LIM;omega
       have hlim1:p1.length+p2.length<=LIM:=by unfold LIM;omega
       have hlim2:p2.length<=LIM:=by omega
       have t3:List.take (p1.length+p2.length) (dgL p1++dgL p2)=dgL p1++dgL p2:=List.take_of_length_le (by simp[dgL_length])
       rw[dgL_appl]at n3 ⊢
       refine⟨false,sB,?_,Or.inr rfl⟩
       generalize a+spl l.length=a2 at *
       generalize a+l.length=aw at *
       generalize spl l.length=z at *
       clear i1 i2 tl td hW wl wh ih
       generalize l.length=w at *
       rw[call_go (fd:=fd46) rfl]
       rcases v1 with rfl|rfl
       . rcases v2 with rfl|rfl
         . simp(disch:=((fail_if_success (intro _));omega)) only[go_sem,simprocAttr,↓reduceIte,↓Nat.reduceEqDiff,xx,fd46,m46,↓out16_eq,H.out16_len,H.out16_all,H.out16_pl,hL,hT,ea,ek,cw,k,u1,u2,sB_size,n1,n2,n3,m1,m2,t1,t2,t3,hP,nn,dgL_nil]
         . simp(disch:=((fail_if_success (intro _));omega)) only[go_sem,simprocAttr,↓reduceIte,↓Nat.reduceEqDiff,xx,fd46,m46,↓out16_eq,H.out16_len,H.out16_all,H.out16_pl,hL,hT,ea,ek,cw,k,u1,u2,sB_size,n1,n2,n3,m1,m2,t1,t2,t3,hP,nn,dgL_nil]
       . rcases v2 with rfl|rfl
         . simp(disch:=((fail_if_success (intro _));omega)) only[go_sem,simprocAttr,↓reduceIte,↓Nat.reduceEqDiff,xx,fd46,m46,↓out16_eq,H.out16_len,H.out16_all,H.out16_pl,hL,hT,ea,ek,cw,k,u1,u2,sB_size,n1,n2,n3,m1,m2,t1,t2,t3,hP,nn,dgL_nil]
         . simp(disch:=((fail_if_success (intro _));omega)) only[go_sem,simprocAttr,↓reduceIte,↓Nat.reduceEqDiff,xx,fd46,m46,↓out16_eq,H.out16_len,H.out16_all,H.out16_pl,hL,hT,ea,ek,cw,k,u1,u2,sB_size,n1,n2,n3,m1,m2,t1,t2,t3,hP,nn,dgL_nil]
     . have h1':l.length=1:=by omega
       refine⟨true,.sc,?_,Or.inl (mny_one hq (by omega))⟩
       rw[mn,mny_one hq (by omega),dgL_nil]
       generalize a+l.length=aw at *
       have ea':(a:Int)+1=(aw:Int):=by omega
       rw[call_go (fd:=fd46) rfl]
       simp(disch:=((fail_if_success (intro _));omega)) only[go_sem,simprocAttr,↓reduceIte,↓Nat.reduceEqDiff,xx,fd46,m46,hL,hT,ea',cw,h1',hP,nn]
end
end Go.Proofs.S03
namespace Go.Proofs.S03
open Go Go.Ev Go.Proofs Go.Mk
open Go.Proofs.S03.H (GlK GlR)
variable {gl :Gl} {n:Nat}
theorem many_bad (h:2<=n){l:List Dg}{f f':Bool}{sh sh':Sh}{pl:List Int}(hl:l.length<=1000000)(hp:pl.length<=1000000)(hs:Sd pl sh' .sc)(hb:¬AscB pl l.length) :
  call gl tab n 21 [.lst f sh (dgL l),.lst f' sh' (pI pl)] []=some (.tup [.sl 20000 [] 0 0,i64 1],[],[.grow sB []]):=by
 obtain⟨d,rfl⟩:=Nat.exists_eq_add_of_le' h
 have hL:=dgL_length l
 obtain⟨b,hbb,c⟩:=@asc_at gl (d+1) (by omega) f' sh' pl l.length hp hs
 obtain rfl:b=false:=by cases b;rfl;exact absurd (hbb.1 rfl) hb
 rw[call_go (fd:=fd21) rfl]
 simp(disch:=((fail_if_success (intro _));omega)) only[go_sem,simprocAttr,↓reduceIte,↓Nat.reduceEqDiff,xx,fd21,m21,hL,c]
theorem many_zero (h:2<=n){f f':Bool}{sh sh':Sh}{pl:List Int}(hp:pl.length<=1000000)(hs:Sd pl sh' .sc)(hb:AscB pl 0) :
  call gl tab n 21 [.lst f sh [],.lst f' sh' (pI pl)] []=some (.tup [.sl 20000 [] 0 0,i64 0],[],[.grow sB []]):=by
 obtain⟨d,rfl⟩:=Nat.exists_eq_add_of_le' h
 obtain⟨b,hbb,c⟩:=@asc_at gl (d+1) (by omega) f' sh' pl 0 hp hs
 obtain rfl:b=true:=hbb.2 hb
 rw[call_go (fd:=fd21) rfl]
 simp(disch:=((fail_if_success (intro _));omega)) only[go_sem,simprocAttr,↓reduceIte,↓Nat.reduceEqDiff,xx,fd21,m21,c,fn_scalar]
section
variable [Nonempty (GlK gl)]
theorem many_ok (h:1000<=n){l:List Dg}{f f':Bool}{sh sh':Sh}{ps:List Nat}(ha:All16 l)(h1:1<=l.length)(hl:l.length<=900)(hs:Sd l sh sB)(hp:ps.length<=1000000)(hs':Sd ps sh' .sc)(hA:Asc ps 0 l.length) :
  call gl tab n 21 [.lst f sh (dgL l),.lst f' sh' (pN ps)] []=some (.tup [.sl 20000 [] 0 (mn l 0 ps).length,i64 0],[],[.grow sB (dgL (mn l 0 ps))]):=by
 obtain⟨d,rfl⟩:=Nat.exists_eq_add_of_le' h
 obtain rfl:sh=sB:=by rcases hs with hs|hs;subst hs;simp at h1;exact hs
 have hL:=dgL_length l
 have hsT:Sd (toI ps) sh' .sc:=by
  rcases hs' with rfl|hs'
  . exact Or.inl rfl
  . exact Or.inr hs'
 obtain⟨b,hbb,c⟩:=@asc_at gl (d+999) (by omega) f' sh' (toI ps) l.length (by rw[toI_length];exact hp) hsT
 obtain rfl:b=true:=hbb.2 (toI_asc hA)
 rw[<-pN]at c
 obtain⟨xn,xs,_,_⟩:=@p43_at gl _ l.length l 0 ps (d+999) (Nat.le_refl _) (by omega) h1 ha (by omega) hp (by omega) hA
 have hM:=dgL_length (mn l 0 ps)
 have hT:=dgL_all (mn l 0 ps)
 have na:=dgL_noImms (mn l 0 ps)
 generalize mn l 0 ps=p at *
 have hg:(0:Int)<(l.length:Int):=by omega
 by_cases hn:p=[]
 . have x:=xn hn f f' sh' hs'
   simp only[show((0:Nat):Int)=0 from rfl]at x
   rw[hn,List.length_nil,dgL_nil]
   clear hA
   rw[call_go (fd:=fd21) rfl]
   simp(disch:=((fail_if_success (intro _));omega)) only[go_sem,simprocAttr,↓reduceIte,↓Nat.reduceEqDiff,xx,fd21,m21,hL,c,x,fn_scalar]
 . have x:=xs hn f f' sh' hs'
   simp only[show((0:Nat):Int)=0 from rfl]at x
   rw[call_go (fd:=fd21) rfl]
   simp(disch:=((fail_if_success (intro _));omega)) only[go_sem,simprocAttr,↓reduceIte,↓Nat.reduceEqDiff,xx,fd21,m21,hL,c,x,fn_scalar,hM,hT,na]
end
theorem rmanyT_bad (h:2<=n){l:List Dg}{f f':Bool}{sh sh':Sh}{pl:List Int}(hl:l.length<=1000000)(hp:pl.length<=1000000)(hs:Sd pl sh' .sc)(hb:¬AscB pl l.length) :
  call gl tab n 22 [.lst f sh (dgL l),.lst f' sh' (pI pl)] []=some (.agg [nilA,i64 1],[],[]):=by
 obtain⟨d,rfl⟩:=Nat.exists_eq_add_of_le' h
 have hL:=dgL_length l
 obtain⟨b,hbb,c⟩:=@rasc_at gl (d+1) (by omega) f' sh' pl l.length hp hs
 obtain rfl:b=false:=by cases b;rfl;exact absurd (hbb.1 rfl) hb
 rw[call_go (fd:=fd22) rfl]
 simp(disch:=((fail_if_success (intro _));omega)) only[go_sem,simprocAttr,↓reduceIte,↓Nat.reduceEqDiff,xx,fd22,m22,hL,c]
theorem rmanyT_zero (h:2<=n){f f':Bool}{sh sh':Sh}{pl:List Int}(hp:pl.length<=1000000)(hs:Sd pl sh' .sc)(hb:AscB pl 0) :
  call gl tab n 22 [.lst f sh [],.lst f' sh' (pI pl)] []=some (.agg [nilA,i64 0],[],[]):=by
 obtain⟨d,rfl⟩:=Nat.exists_eq_add_of_le' h
 obtain⟨b,hbb,c⟩:=@rasc_at gl (d+1) (by omega) f' sh' pl 0 hp hs
 obtain rfl:b=true:=hbb.2 hb
 rw[call_go (fd:=fd22) rfl]
 simp(disch:=((fail_if_success (intro _));omega)) only[go_sem,simprocAttr,↓reduceIte,↓Nat.reduceEqDiff,xx,fd22,m22,c]
section
variable [Nonempty (GlR gl)]
theorem rmanyT_ok (h:1000<=n){l:List Dg}{f f':Bool}{sh sh':Sh}{ps:List Nat}(ha:All16 l)(h1:1<=l.length)(hl:l.length<=900)(hs:Sd l sh sB)(hp:ps.length<=1000000)(hs':Sd ps sh' .sc)(hA:Asc ps 0 l.length) :
  ∃g s',call gl tab n 22 [.lst f sh (dgL l),.lst f' sh' (pN ps)] []=some (.agg [.lst g s' (dgL (mn l 0 ps)),i64 0],[],[])/\Sd (mn l 0 ps) s' sB:=by
 obtain⟨d,rfl⟩:=Nat.exists_eq_add_of_le' h
 obtain rfl:sh=sB:=by rcases hs with hs|hs;subst hs;simp at h1;exact hs
 have hL:=dgL_length l
 have hsT:Sd (toI ps) sh' .sc:=by
  rcases hs' with rfl|hs'
  . exact Or.inl rfl
  . exact Or.inr hs'
 obtain⟨b,hbb,c⟩:=@rasc_at gl (d+999) (by omega) f' sh' (toI ps) l.length (by rw[toI_length];exact hp) hsT
 obtain rfl:b=true:=hbb.2 (toI_asc hA)
 rw[<-pN]at c
 obtain⟨g,s',x,hx⟩:=@rmany_at gl _ l.length (d+999) l 0 l.length ps f f' sh' (Nat.le_refl _) (by omega) h1 ha (by omega) hp (by omega) hA hs'
 simp only[show((0:Nat):Int)=0 from rfl]at x
 have ew:=wit_all hA
 rw[ew]at x hx
 have na:=dgL_noImms (mn l 0 ps)
 generalize mn l 0 ps=p at *
 refine⟨g,s',?_,hx⟩
 clear ew hA
 rw[call_go (fd:=fd22) rfl]
 simp(disch:=((fail_if_success (intro _));omega)) only[go_sem,simprocAttr,↓reduceIte,↓Nat.reduceEqDiff,xx,fd22,m22,hL,c,x,na]
end
end Go.Proofs.S03
