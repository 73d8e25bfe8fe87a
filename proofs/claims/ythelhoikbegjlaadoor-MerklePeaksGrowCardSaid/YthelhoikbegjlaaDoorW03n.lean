/-
  Chapter 3: the proof of several elements. No condition.
-/
import Derived.Test.YthelhoikbegjlaaDoorW03m
set_option linter.unusedVariables false
set_option linter.unusedSimpArgs false
set_option linter.unusedSectionVars false
namespace Go.Proofs.S03
open Go Go.Ev Go.Proofs Go.Mk
open Go.Proofs.S03.H (GlK GlR)
variable {gl :Gl} {n:Nat}
abbrev F43 :OB:=.fix .sc (.fn 43 [.ptr 100000 [],.ptr 100001 []])
abbrev G43 :OB:=.fix .sc (.fn 43 [.ptr 100000 [],.ptr 100002 []])
abbrev HA :Hp:=[(100000,.fix .sc nilA),(100001,F43)]
abbrev HA2 (k:Nat):Hp:=[(100000,.fix .sc (.sl 20000 [] 0 k)),(100001,F43)]
abbrev HB (acc:List Dg):Hp:=[(100000,.fix .sc (.sl 100001 [] 0 acc.length)),(100001,.grow sB (dgL acc)),(100002,G43)]
abbrev HB2 (k:Nat):Hp:=[(100000,.fix .sc (.sl 20000 [] 0 k)),(100001,.dead),(100002,G43)]
abbrev mn (l:List Dg)(a:Nat)(ps:List Nat):List Dg:=mny nd em l a ps
theorem Asc.zero {ps:List Nat}{a k:Nat}(h:Asc ps a k):Asc ps 0 (a+k):=⟨h.so,fun x hx=>by have:=h.wi x hx;omega⟩
theorem lows_le (ps:List Nat)(a:Nat):(lows ps a).length<=ps.length:=List.length_filter_le _ _
theorem highs_le (ps:List Nat)(a:Nat):(highs ps a).length<=ps.length:=List.length_filter_le _ _
theorem Sd.lows {ps:List Nat}{a:Nat}{sh:Sh}(h:Sd ps sh .sc):Sd (lows ps a) sh .sc:=by
 rcases h with rfl|h
 . exact Or.inl rfl
 . exact Or.inr h
theorem Sd.highs {ps:List Nat}{a:Nat}{sh:Sh}(h:Sd ps sh .sc):Sd (highs ps a) sh .sc:=by
 rcases h with rfl|h
 . exact Or.inl rfl
 . exact Or.inr h
theorem mn_le :∀(c:Nat) (l:List Dg) (a:Nat) (ps:List Nat),l.length<=c->1<=l.length->(mn l a ps).length<=l.length
 | 0,l,a,ps,h,h1=>by omega
 | c+1,l,a,ps,h,h1=>by
   by_cases hp:ps=[]
   . subst hp;rw[mn,mny_nil];simpa using h1
   . by_cases h2:2<=l.length
     . have hk:=spl_lt h2
       have hp':=spl_pos l.length
       have tl:(l.take (spl l.length)).length=spl l.length:=by rw[List.length_take];omega
       have td:(l.drop (spl l.length)).length=l.length-spl l.length:=by rw[List.length_drop]
       rw[mn,mny_two hp h2,List.length_append]
       have a1:=mn_le c (l.take (spl l.length)) a (lows ps (a+spl l.length)) (by omega) (by omega)
       have a2:=mn_le c (l.drop (spl l.length)) (a+spl l.length) (highs ps (a+spl l.length)) (by omega) (by omega)
       simp only[mn]at a1 a2
       omega
     . rw[mn,mny_one hp (by omega)];simp
section
variable [Nonempty (GlK gl)]
structure P43 (gl:Gl)(n:Nat)(l:List Dg)(a:Nat)(ps:List Nat):Prop where
 xn:mn l a ps=[]->∀(f f':Bool) (sh:Sh),Sd ps sh .sc->call gl tab n 43 [.lst f sB (dgL l),i64 a,.lst f' sh (pN ps),.ptr 100000 [],.ptr 100001 []] HA=some (.tup [],HA,[])
 xs:mn l a ps≠[]->∀(f f':Bool) (sh:Sh),Sd ps sh .sc->call gl tab n 43 [.lst f sB (dgL l),i64 a,.lst f' sh (pN ps),.ptr 100000 [],.ptr 100001 []] HA=some (.tup [],HA2 (mn l a ps).length,[.grow sB (dgL (mn l a ps))])
 yn:mn l a ps=[]->∀(acc:List Dg),acc.length+l.length<=1000000->∀(f f':Bool) (sh:Sh),Sd ps sh .sc->call gl tab n 43 [.lst f sB (dgL l),i64 a,.lst f' sh (pN ps),.ptr 100000 [],.ptr 100002 []] (HB acc)=some (.tup [],HB acc,[])
 ys:mn l a ps≠[]->∀(acc:List Dg),acc.length+l.length<=1000000->∀(f f':Bool) (sh:Sh),Sd ps sh .sc->call gl tab n 43 [.lst f sB (dgL l),i64 a,.lst f' sh (pN ps),.ptr 100000 [],.ptr 100002 []] (HB acc)=some (.tup [],HB2 (acc++mn l a ps).length,[.grow sB (dgL (acc++mn l a ps))])
theorem p43_nil {l:List Dg}{a:Nat}{m:Nat}(hm:9+l.length<=m)(h1:1<=l.length)(ha:All16 l)(hl:l.length<=1000000):P43 gl m l a []:=by
 obtain⟨d,rfl⟩:∃d,m=d+1:=⟨m-1,by omega⟩
 have hL:=dgL_length l
 have na:=dgL_noImms
 have l1:1<=LIM:=by unfold LIM;omega
 have b:=fun f'=>@root_at gl _ l.length d l f' sB (by omega) (by omega) ha (by omega) (Or.inr rfl)
 have rb:=rt_len ha
 have qb:=H.bytes_all (rt nd em l)
 constructor
 . intro h0;rw[mn,mny_nil]at h0;simp at h0
 . intro h0 f f' sh hs
   rw[mn,mny_nil,List.length_singleton]
   have e1:dgL [rt nd em l]=[.agg (bytesAV (rt nd em l))]:=rfl
   rw[e1]
   generalize rt nd em l=r at *
   generalize l.length=w at *
   rw[call_gen (fd:=fd43) rfl]
   simp(disch:=((fail_if_success (intro _));omega)) only[go_sem,simprocAttr,↓reduceIte,↓Nat.reduceEqDiff,xx,fd43,m43,↓out16_eq,H.out16_len,H.out16_all,H.out16_pl,hL,sB_size,b,rb,qb,na,H.noImms_bytesAV,pN_nil]
 . intro h0;rw[mn,mny_nil]at h0;simp at h0
 . intro h0 acc hac f f' sh hs
   rw[mn,mny_nil,dgL_app,List.length_append,List.length_singleton]
   have hM:=dgL_length acc
   have hlim:acc.length+1<=LIM:=by unfold LIM;omega
   generalize rt nd em l=r at *
   generalize l.length=w at *
   rw[call_gen (fd:=fd43) rfl]
   simp(disch:=((fail_if_success (intro _));omega)) only[go_sem,simprocAttr,↓reduceIte,↓Nat.reduceEqDiff,xx,fd43,m43,↓out16_eq,H.out16_len,H.out16_all,H.out16_pl,hL,hM,sB_size,b,rb,qb,na,H.noImms_bytesAV,pN_nil]
theorem p43_one {l:List Dg}{a:Nat}{ps:List Nat}{m:Nat}(hm:1<=m)(h1:l.length=1)(hp:ps≠[])(hpl:ps.length<=1000000):P43 gl m l a ps:=by
 obtain⟨d,rfl⟩:=Nat.exists_eq_add_of_le' hm
 have hL:=dgL_length l
 have hP:=pN_length ps
 have hp0:=List.length_pos_iff.2 hp
 have e:=@mny_one Dg nd em l a ps hp (by omega)
 constructor
 . intro _ f f' sh hs
   rw[call_gen (fd:=fd43) rfl]
   simp(disch:=((fail_if_success (intro _));omega)) only[go_sem,simprocAttr,↓reduceIte,↓Nat.reduceEqDiff,xx,fd43,m43,hL,h1,hP]
 . intro h;exact absurd e h
 . intro _ acc hac f f' sh hs
   rw[call_gen (fd:=fd43) rfl]
   simp(disch:=((fail_if_success (intro _));omega)) only[go_sem,simprocAttr,↓reduceIte,↓Nat.reduceEqDiff,xx,fd43,m43,hL,h1,hP]
 . intro h;exact absurd e h
theorem p43_two {l:List Dg}{a:Nat}{ps:List Nat}{d:Nat}(hm:5<=d)(h2:2<=l.length)(hp:ps≠[])(hpl:ps.length<=1000000)(hl:l.length<=1000000)(haa:a<=1152921504)(hA:Asc ps a l.length)
  (i1:P43 gl d (l.take (spl l.length)) a (lows ps (a+spl l.length))) (i2:P43 gl d (l.drop (spl l.length)) (a+spl l.length) (highs ps (a+spl l.length))):P43 gl (d+1) l a ps:=by
 have hL:=dgL_length l
 have hT:=dgL_all l
 have hP:=pN_length ps
 have hp0:=List.length_pos_iff.2 hp
 have hk:=spl_lt h2
 have hpp:=spl_pos l.length
 have na:=dgL_noImms
 have nn:=pN_noImms
 have k:=@split_at gl d (by omega) l.length h2 (by omega)
 have ek:(a:Int)+(spl l.length:Int)=((a+spl l.length:Nat):Int):=by omega
 have ct:=fun f' sh hs=>@cut_at gl d (by omega) f' sh ps (a+spl l.length) (a+l.length) (Asc.zero hA) hpl (by omega) (by omega) hs
 have tl:(l.take (spl l.length)).length=spl l.length:=by rw[List.length_take];omega
 have td:(l.drop (spl l.length)).length=l.length-spl l.length:=by rw[List.length_drop]
 have b1:=mn_le _ (l.take (spl l.length)) a (lows ps (a+spl l.length)) (Nat.le_refl _) (by omega)
 have b2:=mn_le _ (l.drop (spl l.length)) (a+spl l.length) (highs ps (a+spl l.length)) (Nat.le_refl _) (by omega)
 rw[tl]at b1
 rw[td]at b2
 have e:mn l a ps=mn (l.take (spl l.length)) a (lows ps (a+spl l.length))++mn (l.drop (spl l.length)) (a+spl l.length) (highs ps (a+spl l.length)):=mny_two hp h2
 obtain⟨xn1,xs1,yn1,ys1⟩:=i1
 obtain⟨xn2,xs2,yn2,ys2⟩:=i2
 rw[tl]at yn1 ys1
 rw[td]at yn2 ys2
 simp only[<-dgL_take]at xn1 xs1 yn1 ys1
 simp only[<-dgL_drop]at xn2 xs2 yn2 ys2
 generalize mn (l.take (spl l.length)) a (lows ps (a+spl l.length))=p1 at *
 generalize mn (l.drop (spl l.length)) (a+spl l.length) (highs ps (a+spl l.length))=p2 at *
 have sl:∀{sh:Sh},Sd ps sh .sc->Sd (lows ps (a+spl l.length)) sh .sc:=fun h=>h.lows
 have sg:∀{sh:Sh},Sd ps sh .sc->Sd (highs ps (a+spl l.length)) sh .sc:=fun h=>h.highs
 generalize lows ps (a+spl l.length)=q1 at *
 generalize highs ps (a+spl l.length)=q2 at *
 generalize a+spl l.length=a2 at *
 generalize spl l.length=z at *
 clear hA tl td
 generalize hw:l.length=w at *
 constructor
 . intro h0 f f' sh hs
   rw[e,List.append_eq_nil_iff]at h0
   obtain⟨f2,ct⟩:=ct f' sh hs
   have u1:=fun f=>xn1 h0.1 f true sh (sl hs)
   have u2:=fun f=>xn2 h0.2 f f2 sh (sg hs)
   rw[call_gen (fd:=fd43) rfl]
   simp(disch:=((fail_if_success (intro _));omega)) only[go_sem,simprocAttr,↓reduceIte,↓Nat.reduceEqDiff,xx,fd43,m43,hL,hT,hP,sB_size,k,ek,ct,u1,u2,na,nn]
 . intro h0 f f' sh hs
   obtain⟨f2,ct⟩:=ct f' sh hs
   rw[e]at h0 ⊢
   by_cases g1:p1=[]
   . subst g1
     have u1:=fun f=>xn1 rfl f true sh (sl hs)
     have u2:=fun f=>xs2 (by simpa using h0) f f2 sh (sg hs)
     rw[List.nil_append]
     rw[call_gen (fd:=fd43) rfl]
     simp(disch:=((fail_if_success (intro _));omega)) only[go_sem,simprocAttr,↓reduceIte,↓Nat.reduceEqDiff,xx,fd43,m43,hL,hT,hP,sB_size,k,ek,ct,u1,u2,na,nn]
   . have u1:=fun f=>xs1 g1 f true sh (sl hs)
     have bp:p1.length+(w-z)<=1000000:=by omega
     by_cases g2:p2=[]
     . subst g2
       have u2:=fun f=>yn2 rfl p1 bp f f2 sh (sg hs)
       rw[List.append_nil]
       rw[call_gen (fd:=fd43) rfl]
       simp(disch:=((fail_if_success (intro _));omega)) only[go_sem,simprocAttr,↓reduceIte,↓Nat.reduceEqDiff,xx,fd43,m43,hL,hT,hP,sB_size,k,ek,ct,u1,u2,na,nn]
     . have u2:=fun f=>ys2 g2 p1 bp f f2 sh (sg hs)
       rw[call_gen (fd:=fd43) rfl]
       simp(disch:=((fail_if_success (intro _));omega)) only[go_sem,simprocAttr,↓reduceIte,↓Nat.reduceEqDiff,xx,fd43,m43,hL,hT,hP,sB_size,k,ek,ct,u1,u2,na,nn]
 . intro h0 acc hac f f' sh hs
   rw[e,List.append_eq_nil_iff]at h0
   obtain⟨f2,ct⟩:=ct f' sh hs
   have u1:=fun f=>yn1 h0.1 acc (by omega) f true sh (sl hs)
   have u2:=fun f=>yn2 h0.2 acc (by omega) f f2 sh (sg hs)
   rw[call_gen (fd:=fd43) rfl]
   simp(disch:=((fail_if_success (intro _));omega)) only[go_sem,simprocAttr,↓reduceIte,↓Nat.reduceEqDiff,xx,fd43,m43,hL,hT,hP,sB_size,k,ek,ct,u1,u2,na,nn]
 . intro h0 acc hac f f' sh hs
   obtain⟨f2,ct⟩:=ct f' sh hs
   rw[e]at h0 ⊢
   by_cases g1:p1=[]
   . subst g1
     have u1:=fun f=>yn1 rfl acc (by omega) f true sh (sl hs)
     have u2:=fun f=>ys2 (by simpa using h0) acc (by omega) f f2 sh (sg hs)
     rw[List.nil_append]
     rw[call_gen (fd:=fd43) rfl]
     simp(disch:=((fail_if_success (intro _));omega)) only[go_sem,simprocAttr,↓reduceIte,↓Nat.reduceEqDiff,xx,fd43,m43,hL,hT,hP,sB_size,k,ek,ct,u1,u2,na,nn]
   . have u1:=fun f=>ys1 g1 acc (by omega) f true sh (sl hs)
     have bp:(acc++p1).length+(w-z)<=1000000:=by rw[List.length_append];omega
     by_cases g2:p2=[]
     . subst g2
       have u2:=fun f=>yn2 rfl (acc++p1) bp f f2 sh (sg hs)
       simp only[HB,HB2,List.length_append]at u2
       rw[List.append_nil]
       rw[call_gen (fd:=fd43) rfl]
       simp(disch:=((fail_if_success (intro _));omega)) only[go_sem,simprocAttr,↓reduceIte,↓Nat.reduceEqDiff,xx,fd43,m43,hL,hT,hP,sB_size,k,ek,ct,u1,u2,na,nn]
     . have u2:=fun f=>ys2 g2 (acc++p1) bp f f2 sh (sg hs)
       simp only[HB,HB2,List.length_append]at u2
       rw[<-List.append_assoc]
       rw[call_gen (fd:=fd43) rfl]
       simp(disch:=((fail_if_success (intro _));omega)) only[go_sem,simprocAttr,↓reduceIte,↓Nat.reduceEqDiff,xx,fd43,m43,hL,hT,hP,sB_size,k,ek,ct,u1,u2,na,nn]
theorem p43_at :∀(c:Nat) {l:List Dg} {a:Nat} {ps:List Nat} {m:Nat},l.length<=c->9+c<=m->1<=l.length->All16 l->l.length<=1000000->ps.length<=1000000->a+l.length<=1152921504->Asc ps a l.length->P43 gl m l a ps
 | 0,l,a,ps,m,hc,hm,h1,ha,hl,hp,haa,hA=>by omega
 | c+1,l,a,ps,m,hc,hm,h1,ha,hl,hpl,haa,hA=>by
   by_cases hp:ps=[]
   . subst hp;exact p43_nil (by omega) h1 ha hl
   . by_cases h2:2<=l.length
     . obtain⟨d,rfl⟩:∃d,m=d+1:=⟨m-1,by omega⟩
       have hk:=spl_lt h2
       have hpp:=spl_pos l.length
       have tl:(l.take (spl l.length)).length=spl l.length:=by rw[List.length_take];omega
       have td:(l.drop (spl l.length)).length=l.length-spl l.length:=by rw[List.length_drop]
       have g1:=lows_le ps (a+spl l.length)
       have g2:=highs_le ps (a+spl l.length)
       exact p43_two (by omega) h2 hp hpl hl (by omega) hA
        (p43_at c (by omega) (by omega) (by omega) (ha.take _) (by omega) (by omega) (by omega) (by rw[tl];exact hA.lows (by omega)))
        (p43_at c (by omega) (by omega) (by omega) (ha.drop _) (by omega) (by omega) (by omega) (by rw[td];exact hA.highs (by omega)))
     . exact p43_one (by omega) (by omega) hp hpl
end
end Go.Proofs.S03
