/-
  Chapter 3: the proof of an element, whole and as specified. No condition.
-/
import Derived.Test.YthelhoikbegjlaaDoorW03G10x8
set_option linter.unusedVariables false
set_option linter.unusedSimpArgs false
set_option linter.unusedSectionVars false
namespace Go.Proofs.S03
open Go Go.Ev Go.Proofs Go.Mk
open Go.Proofs.S03.H (GlK GlR)
variable {gl :Gl} {n:Nat}
theorem ansL_eq (p:List Dg):∃f sh,ansL p= .lst f sh (dgL p)/\Sd p sh sB:=by
 by_cases h:p=[]
 . subst h;exact⟨true,.sc,rfl,Or.inl rfl⟩
 . exact⟨false,sB,by rw[ansL,if_neg h],Or.inr rfl⟩
theorem fn_scalar {k:Nat}{c:List AV}:(AV.fn k c).scalar=true:=rfl
theorem ansL_nil :ansL []=nilA:=rfl
theorem ansL_app (p:List Dg)(d:Dg):ansL (p++[d])= .lst false sB (dgL p++[.agg (bytesAV d)]):=by rw[ansL,if_neg (by simp),dgL_app]
theorem inclusion_bad (h:1<=n){l:List Dg}{f:Bool}{sh:Sh}{i:Int}(hl:l.length<=1000000)(hi:¬(0<=i/\i<l.length)) :
  call gl tab n 10 [.lst f sh (dgL l),i64 i] []=some (.tup [.sl 20000 [] 0 0,i64 1],[],[.grow sB []]):=by
 obtain⟨d,rfl⟩:=Nat.exists_eq_add_of_le' h
 have hL:=dgL_length l
 rw[call_go (fd:=fd10) rfl]
 by_cases h1:i<0
 . simp(disch:=((fail_if_success (intro _));omega)) only[go_sem,simprocAttr,↓reduceIte,↓Nat.reduceEqDiff,xx,fd10,m10,hL]
 . have h2:(l.length:Int)<=i:=by omega
   simp(disch:=((fail_if_success (intro _));omega)) only[go_sem,simprocAttr,↓reduceIte,↓Nat.reduceEqDiff,xx,fd10,m10,hL]
section
variable [Nonempty (GlK gl)]
theorem inclusion_ok (h:1000<=n){l:List Dg}{f:Bool}{sh:Sh}{i:Nat}(ha:All16 l)(hl:l.length<=900)(hi:i<l.length)(hs:Sd l sh sB) :
  call gl tab n 10 [.lst f sh (dgL l),i64 i] []=some (.tup [.sl 20000 [] 0 (incl nd em l i).length,i64 0],[],[.grow sB (dgL (incl nd em l i))]):=by
 obtain⟨d,rfl⟩:=Nat.exists_eq_add_of_le' h
 have hL:=dgL_length l
 obtain rfl:sh=sB:=by rcases hs with hs|hs;subst hs;simp at hi;exact hs
 by_cases h2:2<=l.length
 . have a:=@prove32 gl _ l.length (d+999) l f i (Nat.le_refl _) (by omega) ha (by omega) hi h2
   have hN:incl nd em l i≠[]:=by
    by_cases hlo:i<spl l.length
    . rw[incl_lo h2 hlo];simp
    . rw[incl_hi h2 hlo];simp
   have hM:=dgL_length (incl nd em l i)
   have hT:=dgL_all (incl nd em l i)
   have na:=dgL_noImms (incl nd em l i)
   generalize incl nd em l i=p at *
   generalize l.length=w at *
   rw[call_go (fd:=fd10) rfl]
   simp(disch:=((fail_if_success (intro _));omega)) only[go_sem,simprocAttr,↓reduceIte,↓Nat.reduceEqDiff,xx,fd10,m10,hL,hM,hT,a,na,fn_scalar]
 . have a:=@prove32_one gl (d+999) (by omega) l f i (by omega)
   rw[incl_one (by omega),List.length_nil,dgL_nil]
   generalize l.length=w at *
   rw[call_go (fd:=fd10) rfl]
   simp(disch:=((fail_if_success (intro _));omega)) only[go_sem,simprocAttr,↓reduceIte,↓Nat.reduceEqDiff,xx,fd10,m10,hL,a,fn_scalar]
end
theorem with_at (h:1<=n){p:List Dg}{d:Dg}{f:Bool}{sh:Sh}(hp:p.length<=1000000)(hd:d.length=16)(hs:Sd p sh sB) :
  call gl tab n 60 [.lst f sh (dgL p),bAV d] []=some (.lst false sB (dgL (p++[d])),[],[]):=by
 obtain⟨e,rfl⟩:=Nat.exists_eq_add_of_le' h
 have hL:=dgL_length p
 have hT:=dgL_all p
 have na:=dgL_noImms p
 have qb:=H.bytes_all d
 have nd:=dgL_noImms (p++[d])
 have d1:=b16t hd
 rw[dgL_app]at nd ⊢
 have hT2:List.take (p.length+1) (dgL p++[AV.agg (bytesAV d)])=dgL p++[AV.agg (bytesAV d)]:=List.take_of_length_le (by simp[hL])
 have hlim:p.length+1<=LIM:=by unfold LIM;omega
 have hlim0:p.length<=LIM:=by omega
 have hLIM0:1<=LIM:=by omega
 rw[call_go (fd:=fd60) rfl]
 rcases hs with rfl|rfl
 . simp(disch:=((fail_if_success (intro _));omega)) only[go_sem,simprocAttr,↓reduceIte,↓Nat.reduceEqDiff,xx,fd60,m60,↓out16_eq,H.out16_len,H.out16_all,H.out16_pl,dgL_nil,hL,hd,qb,nd,d1,H.noImms_bytesAV]
 . generalize p.length=w at *
   simp(disch:=((fail_if_success (intro _));omega)) only[go_sem,simprocAttr,↓reduceIte,↓Nat.reduceEqDiff,xx,fd60,m60,↓out16_eq,H.out16_len,H.out16_all,H.out16_pl,hL,hT,hT2,hd,qb,na,nd,d1,sB_size,H.noImms_bytesAV]
section
variable [Nonempty (GlR gl)]
theorem rincl_at :∀(c:Nat) {n:Nat} (l:List Dg) (f:Bool) (i:Nat),l.length<=c->9+c<=n->All16 l->l.length<=1000000->i<l.length ->
  call gl tab n 35 [.lst f sB (dgL l),i64 i] []=some (ansL (incl nd em l i),[],[]):=by
 intro c
 induction c with
 | zero=>intro n l f i hc h ha hl hi;omega
 | succ c ih =>
   intro n l f i hc h ha hl hi
   obtain⟨d,rfl⟩:∃d,n=d+1:=⟨n-1,by omega⟩
   have hL:=dgL_length l
   have hT:=dgL_all l
   by_cases h2:2<=l.length
   . have hk:=spl_lt h2
     have hp:=spl_pos l.length
     have k:=@rsplit_at gl d (by omega) l.length h2 (by omega)
     have tl:(l.take (spl l.length)).length=spl l.length:=by rw[List.length_take];omega
     have td:(l.drop (spl l.length)).length=l.length-spl l.length:=by rw[List.length_drop]
     by_cases hlo:i<spl l.length
     . have b:=fun f'=>@rroot_at gl _ c d (l.drop (spl l.length)) f' sB (by omega) (by omega) (ha.drop _) (by omega) (Or.inr rfl)
       rw[incl_lo h2 hlo,ansL_app,<-dgL_app]
       have rb:=rt_len (ha.drop (spl l.length))
       have a:=fun f'=>@ih d (l.take (spl l.length)) f' i (by omega) (by omega) (ha.take _) (by omega) (by omega)
       have hN:=incl_le _ (l.take (spl l.length)) i (Nat.le_refl _)
       obtain⟨f1,sh1,e1,e2⟩:=ansL_eq (incl nd em (l.take (spl l.length)) i)
       have hw:=@with_at gl d (by omega) (incl nd em (l.take (spl l.length)) i) (rt nd em (l.drop (spl l.length))) f1 sh1 (by omega) rb e2
       have na:=dgL_noImms (incl nd em (l.take (spl l.length)) i++[rt nd em (l.drop (spl l.length))])
       rw[e1]at a
       simp only[<-dgL_take]at a
       simp only[<-dgL_drop]at b
       generalize dgL (incl nd em (l.take (spl l.length)) i++[rt nd em (l.drop (spl l.length))])=y at *
       generalize rt nd em (l.drop (spl l.length))=r at *
       generalize incl nd em (l.take (spl l.length)) i=p at *
       generalize spl l.length=z at *
       generalize l.length=w at *
       rw[call_go (fd:=fd35) rfl]
       simp(implicitDefEqProofs:=false) (disch:=((fail_if_success (intro _));omega)) only[go_sem,simprocAttr,↓reduceIte,↓Nat.reduceEqDiff,xx,fd35,m35,hL,hT,sB_size,k,a,b,hw,na]
     . have b:=fun f'=>@rroot_at gl _ c d (l.take (spl l.length)) f' sB (by omega) (by omega) (ha.take _) (by omega) (Or.inr rfl)
       rw[incl_hi h2 hlo,ansL_app,<-dgL_app]
       have rb:=rt_len (ha.take (spl l.length))
       have ei:(i:Int)-(spl l.length:Int)=((i-spl l.length:Nat):Int):=by omega
       have a:=fun f'=>@ih d (l.drop (spl l.length)) f' (i-spl l.length) (by omega) (by omega) (ha.drop _) (by omega) (by omega)
       have hN:=incl_le _ (l.drop (spl l.length)) (i-spl l.length) (Nat.le_refl _)
       obtain⟨f1,sh1,e1,e2⟩:=ansL_eq (incl nd em (l.drop (spl l.length)) (i-spl l.length))
       have hw:=@with_at gl d (by omega) (incl nd em (l.drop (spl l.length)) (i-spl l.length)) (rt nd em (l.take (spl l.length))) f1 sh1 (by omega) rb e2
       have na:=dgL_noImms (incl nd em (l.drop (spl l.length)) (i-spl l.length)++[rt nd em (l.take (spl l.length))])
       rw[e1]at a
       simp only[<-dgL_drop]at a
       simp only[<-dgL_take]at b
       generalize dgL (incl nd em (l.drop (spl l.length)) (i-spl l.length)++[rt nd em (l.take (spl l.length))])=y at *
       generalize rt nd em (l.take (spl l.length))=r at *
       generalize incl nd em (l.drop (spl l.length)) (i-spl l.length)=p at *
       generalize spl l.length=z at *
       generalize l.length=w at *
       rw[call_go (fd:=fd35) rfl]
       simp(implicitDefEqProofs:=false) (disch:=((fail_if_success (intro _));omega)) only[go_sem,simprocAttr,↓reduceIte,↓Nat.reduceEqDiff,xx,fd35,m35,hL,hT,sB_size,k,a,b,hw,na,ei]
   . rw[incl_one (by omega),ansL_nil]
     have h1:l.length=1:=by omega
     rw[call_go (fd:=fd35) rfl]
     simp(disch:=((fail_if_success (intro _));omega)) only[go_sem,simprocAttr,↓reduceIte,↓Nat.reduceEqDiff,xx,fd35,m35,hL,h1]
theorem rinclusion_bad (h:1<=n){l:List Dg}{f:Bool}{sh:Sh}{i:Int}(hl:l.length<=1000000)(hi:¬(0<=i/\i<l.length)) :
  call gl tab n 12 [.lst f sh (dgL l),i64 i] []=some (.agg [nilA,i64 1],[],[]):=by
 obtain⟨d,rfl⟩:=Nat.exists_eq_add_of_le' h
 have hL:=dgL_length l
 rw[call_go (fd:=fd12) rfl]
 by_cases h1:i<0
 . simp(disch:=((fail_if_success (intro _));omega)) only[go_sem,simprocAttr,↓reduceIte,↓Nat.reduceEqDiff,xx,fd12,m12,hL]
 . have h2:(l.length:Int)<=i:=by omega
   simp(disch:=((fail_if_success (intro _));omega)) only[go_sem,simprocAttr,↓reduceIte,↓Nat.reduceEqDiff,xx,fd12,m12,hL]
theorem rinclusion_ok (h:1000<=n){l:List Dg}{f:Bool}{sh:Sh}{i:Nat}(ha:All16 l)(hl:l.length<=900)(hi:i<l.length)(hs:Sd l sh sB) :
  call gl tab n 12 [.lst f sh (dgL l),i64 i] []=some (.agg [ansL (incl nd em l i),i64 0],[],[]):=by
 obtain⟨d,rfl⟩:=Nat.exists_eq_add_of_le' h
 have hL:=dgL_length l
 obtain rfl:sh=sB:=by rcases hs with hs|hs;subst hs;simp at hi;exact hs
 have a:=@rincl_at gl _ l.length (d+999) l f i (Nat.le_refl _) (by omega) ha (by omega) hi
 obtain⟨f1,sh1,e1,e2⟩:=ansL_eq (incl nd em l i)
 have na:=dgL_noImms (incl nd em l i)
 rw[e1]at a ⊢
 generalize incl nd em l i=p at *
 generalize l.length=w at *
 rw[call_go (fd:=fd12) rfl]
 simp(disch:=((fail_if_success (intro _));omega)) only[go_sem,simprocAttr,↓reduceIte,↓Nat.reduceEqDiff,xx,fd12,m12,hL,a,na]
end
end Go.Proofs.S03
namespace Go.Proofs.S03
open Go Go.Ev Go.Proofs Go.Mk
open Go.Proofs.S03.H (GlK GlR)
variable {gl :Gl} {n:Nat}
abbrev F34 :OB:=.fix .sc (.fn 34 [.ptr 100000 [],.ptr 100001 []])
theorem cons_le :∀(c:Nat) (l:List Dg) (m:Nat) (mark:Bool),l.length<=c->1<=m->m<=l.length->(cons nd em l m mark).length<=l.length
 | 0,l,m,mark,h,h1,h2=>by omega
 | c+1,l,m,mark,h,h1,hm=>by
   by_cases he:m=l.length
   . subst he;rw[cons_all];cases mark<;>simp;omega
   . have h2:2<=l.length:=by omega
     have hk:=spl_lt h2
     have hp:=spl_pos l.length
     have tl:(l.take (spl l.length)).length=spl l.length:=by rw[List.length_take];omega
     have td:(l.drop (spl l.length)).length=l.length-spl l.length:=by rw[List.length_drop]
     by_cases hi:m<=spl l.length
     . rw[cons_lo h2 he hi,List.length_append,List.length_singleton]
       have:=cons_le c (l.take (spl l.length)) m mark (by omega) h1 (by omega)
       omega
     . rw[cons_hi h2 he hi,List.length_append,List.length_singleton]
       have:=cons_le c (l.drop (spl l.length)) (m-spl l.length) false (by omega) (by omega) (by omega)
       omega
theorem cons_ne {l:List Dg}{m:Nat}{mark:Bool}(hm:m<=l.length)(h1:1<=m)(h:¬(m=l.length/\mark=true)):cons nd em l m mark≠[]:=by
 by_cases he:m=l.length
 . subst he
   rw[cons_all,if_neg (fun hk=>h ⟨rfl,hk⟩)];simp
 . have h2:2<=l.length:=by omega
   by_cases hi:m<=spl l.length
   . rw[cons_lo h2 he hi];simp
   . rw[cons_hi h2 he hi];simp
theorem prove34_all (h:1<=n){l:List Dg}{f:Bool} :
  call gl tab n 34 [.lst f sB (dgL l),i64 l.length,.bool true,.ptr 100000 [],.ptr 100001 []] [(100000,.fix .sc nilA),(100001,F34)]=some (.tup [],[(100000,.fix .sc nilA),(100001,F34)],[]):=by
 obtain⟨d,rfl⟩:=Nat.exists_eq_add_of_le' h
 have hL:=dgL_length l
 rw[call_gen (fd:=fd34) rfl]
 simp(disch:=((fail_if_success (intro _));omega)) only[go_sem,simprocAttr,↓reduceIte,↓Nat.reduceEqDiff,xx,fd34,m34,hL]
section
variable [Nonempty (GlK gl)]
theorem prove34 :∀(c:Nat) {n:Nat} (l:List Dg) (f:Bool) (m:Nat) (mark:Bool),l.length<=c->9+c<=n->All16 l->l.length<=1000000->1<=m->m<=l.length->¬(m=l.length/\mark=true) ->
  call gl tab n 34 [.lst f sB (dgL l),i64 m,.bool mark,.ptr 100000 [],.ptr 100001 []] [(100000,.fix .sc nilA),(100001,F34)] =
   some (.tup [],[(100000,.fix .sc (.sl 20000 [] 0 (cons nd em l m mark).length)),(100001,F34)],[.grow sB (dgL (cons nd em l m mark))]):=by
 intro c
 induction c with
 | zero=>intro n l f m mark hc h ha hl h1 hm hx;omega
 | succ c ih =>
   intro n l f m mark hc h ha hl h1 hm hx
   obtain⟨d,rfl⟩:∃d,n=d+1:=⟨n-1,by omega⟩
   have hL:=dgL_length l
   have hT:=dgL_all l
   have na:=dgL_noImms
   have l1:1<=LIM:=by unfold LIM;omega
   by_cases he:m=l.length
   . obtain rfl:mark=false:=by cases mark;rfl;exact absurd ⟨he,rfl⟩ hx
     subst he
     have b:=fun f'=>@root_at gl _ (c+1) d l f' sB (by omega) (by omega) ha (by omega) (Or.inr rfl)
     rw[cons_all,if_neg (by simp),List.length_singleton]
     have rb:=rt_len ha
     have qb:=H.bytes_all (rt nd em l)
     simp only[dgL,List.map_cons,List.map_nil]
     simp only[dgL]at b hL hT
     generalize rt nd em l=r at *
     generalize l.length=w at *
     rw[call_gen (fd:=fd34) rfl]
     simp(implicitDefEqProofs:=false) (disch:=((fail_if_success (intro _));omega)) only[go_sem,simprocAttr,↓reduceIte,↓Nat.reduceEqDiff,xx,fd34,m34,↓out16_eq,H.out16_len,H.out16_all,H.out16_pl,hL,hT,sB_size,b,rb,qb,H.noImms_bytesAV]
   . have h2:2<=l.length:=by omega
     have hk:=spl_lt h2
     have hp:=spl_pos l.length
     have k:=@split_at gl d (by omega) l.length h2 (by omega)
     have tl:(l.take (spl l.length)).length=spl l.length:=by rw[List.length_take];omega
     have td:(l.drop (spl l.length)).length=l.length-spl l.length:=by rw[List.length_drop]
     by_cases hlo:m<=spl l.length
     . have b:=fun f'=>@root_at gl _ c d (l.drop (spl l.length)) f' sB (by omega) (by omega) (ha.drop _) (by omega) (Or.inr rfl)
       rw[cons_lo h2 he hlo,dgL_app,List.length_append,List.length_singleton]
       have rb:=rt_len (ha.drop (spl l.length))
       have qb:=H.bytes_all (rt nd em (l.drop (spl l.length)))
       by_cases h3:m=spl l.length/\mark=true
       . obtain⟨h4,rfl⟩:=h3
         have a:=fun f'=>@prove34_all gl d (by omega) (l.take (spl l.length)) f'
         have ec:cons nd em (l.take (spl l.length)) m true=[]:=by
          have:=@cons_all Dg nd em (l.take (spl l.length)) true
          rw[tl,if_pos rfl]at this
          rw[h4];exact this
         rw[ec]
         rw[tl]at a
         simp only[<-dgL_take]at a
         simp only[<-dgL_drop]at b
         generalize rt nd em (l.drop (spl l.length))=r at *
         generalize spl l.length=z at *
         subst h4
         generalize l.length=w at *
         rw[call_gen (fd:=fd34) rfl]
         simp(implicitDefEqProofs:=false) (disch:=((fail_if_success (intro _));omega)) only[go_sem,simprocAttr,↓reduceIte,↓Nat.reduceEqDiff,xx,fd34,m34,↓out16_eq,H.out16_len,H.out16_all,H.out16_pl,hL,hT,sB_size,k,a,b,rb,qb,na,H.noImms_bytesAV,dgL_nil]
       . have a:=fun f'=>@ih d (l.take (spl l.length)) f' m mark (by omega) (by omega) (ha.take _) (by omega) h1 (by omega) (by rw[tl];exact h3)
         have hN:=cons_le _ (l.take (spl l.length)) m mark (Nat.le_refl _) h1 (by omega)
         have hM:=dgL_length (cons nd em (l.take (spl l.length)) m mark)
         simp only[<-dgL_take]at a
         simp only[<-dgL_drop]at b
         generalize rt nd em (l.drop (spl l.length))=r at *
         generalize cons nd em (l.take (spl l.length)) m mark=p at *
         rw[tl]at hN
         have hlim:p.length+1<=LIM:=by unfold LIM;omega
         generalize spl l.length=z at *
         generalize l.length=w at *
         rw[call_gen (fd:=fd34) rfl]
         simp(implicitDefEqProofs:=false) (disch:=((fail_if_success (intro _));omega)) only[go_sem,simprocAttr,↓reduceIte,↓Nat.reduceEqDiff,xx,fd34,m34,↓out16_eq,H.out16_len,H.out16_all,H.out16_pl,hL,hT,hM,sB_size,k,a,b,rb,qb,na,H.noImms_bytesAV]
     . have b:=fun f'=>@root_at gl _ c d (l.take (spl l.length)) f' sB (by omega) (by omega) (ha.take _) (by omega) (Or.inr rfl)
       rw[cons_hi h2 he hlo,dgL_app,List.length_append,List.length_singleton]
       have rb:=rt_len (ha.take (spl l.length))
       have qb:=H.bytes_all (rt nd em (l.take (spl l.length)))
       have ei:(m:Int)-(spl l.length:Int)=((m-spl l.length:Nat):Int):=by omega
       have a:=fun f'=>@ih d (l.drop (spl l.length)) f' (m-spl l.length) false (by omega) (by omega) (ha.drop _) (by omega) (by omega) (by omega) (by simp)
       have hN:=cons_le _ (l.drop (spl l.length)) (m-spl l.length) false (Nat.le_refl _) (by omega) (by omega)
       have hM:=dgL_length (cons nd em (l.drop (spl l.length)) (m-spl l.length) false)
       simp only[<-dgL_drop]at a
       simp only[<-dgL_take]at b
       generalize rt nd em (l.take (spl l.length))=r at *
       generalize cons nd em (l.drop (spl l.length)) (m-spl l.length) false=p at *
       rw[td]at hN
       have hlim:p.length+1<=LIM:=by unfold LIM;omega
       generalize spl l.length=z at *
       generalize l.length=w at *
       rw[call_gen (fd:=fd34) rfl]
       simp(implicitDefEqProofs:=false) (disch:=((fail_if_success (intro _));omega)) only[go_sem,simprocAttr,↓reduceIte,↓Nat.reduceEqDiff,xx,fd34,m34,↓out16_eq,H.out16_len,H.out16_all,H.out16_pl,hL,hT,hM,sB_size,k,a,b,rb,qb,na,H.noImms_bytesAV,ei]
theorem consistency_ok (h:1000<=n){l:List Dg}{f:Bool}{sh:Sh}{m:Nat}(ha:All16 l)(hl:l.length<=900)(h1:1<=m)(hm:m<l.length)(hs:Sd l sh sB) :
  call gl tab n 11 [.lst f sh (dgL l),i64 m] []=some (.tup [.sl 20000 [] 0 (cons nd em l m true).length,i64 0],[],[.grow sB (dgL (cons nd em l m true))]):=by
 obtain⟨d,rfl⟩:=Nat.exists_eq_add_of_le' h
 have hL:=dgL_length l
 obtain rfl:sh=sB:=by rcases hs with hs|hs;subst hs;simp at hm;exact hs
 have a:=@prove34 gl _ l.length (d+999) l f m true (Nat.le_refl _) (by omega) ha (by omega) h1 (by omega) (by omega)
 have hN:=@cons_ne l m true (by omega) h1 (by omega)
 have hM:=dgL_length (cons nd em l m true)
 have hT:=dgL_all (cons nd em l m true)
 have na:=dgL_noImms (cons nd em l m true)
 generalize cons nd em l m true=p at *
 generalize l.length=w at *
 rw[call_go (fd:=fd11) rfl]
 simp(disch:=((fail_if_success (intro _));omega)) only[go_sem,simprocAttr,↓reduceIte,↓Nat.reduceEqDiff,xx,fd11,m11,hL,hM,hT,a,na,fn_scalar]
end
theorem consistency_bad (h:1<=n){l:List Dg}{f:Bool}{sh:Sh}{m:Int}(hl:l.length<=1000000)(hm:¬(0<=m/\m<=l.length)) :
  call gl tab n 11 [.lst f sh (dgL l),i64 m] []=some (.tup [.sl 20000 [] 0 0,i64 1],[],[.grow sB []]):=by
 obtain⟨d,rfl⟩:=Nat.exists_eq_add_of_le' h
 have hL:=dgL_length l
 rw[call_go (fd:=fd11) rfl]
 by_cases h1:m<0
 . simp(disch:=((fail_if_success (intro _));omega)) only[go_sem,simprocAttr,↓reduceIte,↓Nat.reduceEqDiff,xx,fd11,m11,hL]
 . have h2:(l.length:Int)<m:=by omega
   simp(disch:=((fail_if_success (intro _));omega)) only[go_sem,simprocAttr,↓reduceIte,↓Nat.reduceEqDiff,xx,fd11,m11,hL]
theorem consistency_end (h:1<=n){l:List Dg}{f:Bool}{sh:Sh}{m:Nat}(hl:l.length<=1000000)(hm:m=0\/m=l.length) :
  call gl tab n 11 [.lst f sh (dgL l),i64 m] []=some (.tup [.sl 20000 [] 0 0,i64 0],[],[.grow sB []]):=by
 obtain⟨d,rfl⟩:=Nat.exists_eq_add_of_le' h
 have hL:=dgL_length l
 rw[call_go (fd:=fd11) rfl]
 rcases hm with rfl|rfl
 . simp(disch:=((fail_if_success (intro _));omega)) only[go_sem,simprocAttr,↓reduceIte,↓Nat.reduceEqDiff,xx,fd11,m11,hL]
 . by_cases h0:l.length=0
   . rw[h0];simp(disch:=((fail_if_success (intro _));omega)) only[go_sem,simprocAttr,↓reduceIte,↓Nat.reduceEqDiff,xx,fd11,m11,hL,h0]
   . simp(disch:=((fail_if_success (intro _));omega)) only[go_sem,simprocAttr,↓reduceIte,↓Nat.reduceEqDiff,xx,fd11,m11,hL]
end Go.Proofs.S03
