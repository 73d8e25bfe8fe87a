/-
  Chapter 3: the proof of a beginning, as specified. No condition.
-/
import Derived.Test.YthelhoikbegjlaaDoorW03G11x8
set_option linter.unusedVariables false
set_option linter.unusedSimpArgs false
set_option linter.unusedSectionVars false
namespace Go.Proofs.S03
open Go Go.Ev Go.Proofs Go.Mk
open Go.Proofs.S03.H (GlK GlR)
variable {gl :Gl} {n:Nat}
section
variable [Nonempty (GlR gl)]
theorem rcons_at :∀(c:Nat) {n:Nat} (l:List Dg) (f:Bool) (m:Nat) (mark:Bool),l.length<=c->9+c<=n->All16 l->l.length<=1000000->1<=m->m<=l.length ->
  call gl tab n 36 [.lst f sB (dgL l),i64 m,.bool mark] []=some (ansL (cons nd em l m mark),[],[]):=by
 intro c
 induction c with
 | zero=>intro n l f m mark hc h ha hl h1 hm;omega
 | succ c ih =>
   intro n l f m mark hc h ha hl h1 hm
   obtain⟨d,rfl⟩:∃d,n=d+1:=⟨n-1,by omega⟩
   have hL:=dgL_length l
   have hT:=dgL_all l
   have l1:1<=LIM:=by unfold LIM;omega
   by_cases he:m=l.length
   . subst he
     rw[cons_all]
     cases mark with
     | true =>
       rw[if_pos rfl,ansL_nil]
       rw[call_go (fd:=fd36) rfl]
       simp(disch:=((fail_if_success (intro _));omega)) only[go_sem,simprocAttr,↓reduceIte,↓Nat.reduceEqDiff,xx,fd36,m36,hL]
     | false =>
       have b:=fun f'=>@rroot_at gl _ (c+1) d l f' sB (by omega) (by omega) ha (by omega) (Or.inr rfl)
       rw[if_neg (by simp)]
       have rb:=rt_len ha
       have qb:=H.bytes_all (rt nd em l)
       have na:=dgL_noImms [rt nd em l]
       rw[ansL,if_neg (by simp)]
       simp only[dgL,List.map_cons,List.map_nil]at na ⊢
       simp only[dgL]at b hL hT
       generalize rt nd em l=r at *
       generalize l.length=w at *
       rw[call_go (fd:=fd36) rfl]
       simp(implicitDefEqProofs:=false) (disch:=((fail_if_success (intro _));omega)) only[go_sem,simprocAttr,↓reduceIte,↓Nat.reduceEqDiff,xx,fd36,m36,↓out16_eq,H.out16_len,H.out16_all,H.out16_pl,hL,hT,sB_size,b,rb,qb,na,H.noImms_bytesAV]
   . have h2:2<=l.length:=by omega
     have hk:=spl_lt h2
     have hp:=spl_pos l.length
     have k:=@rsplit_at gl d (by omega) l.length h2 (by omega)
     have tl:(l.take (spl l.length)).length=spl l.length:=by rw[List.length_take];omega
     have td:(l.drop (spl l.length)).length=l.length-spl l.length:=by rw[List.length_drop]
     by_cases hlo:m<=spl l.length
     . have b:=fun f'=>@rroot_at gl _ c d (l.drop (spl l.length)) f' sB (by omega) (by omega) (ha.drop _) (by omega) (Or.inr rfl)
       rw[cons_lo h2 he hlo,ansL_app,<-dgL_app]
       have rb:=rt_len (ha.drop (spl l.length))
       have a:=fun f'=>@ih d (l.take (spl l.length)) f' m mark (by omega) (by omega) (ha.take _) (by omega) h1 (by omega)
       have hN:=cons_le _ (l.take (spl l.length)) m mark (Nat.le_refl _) h1 (by omega)
       obtain⟨f1,sh1,e1,e2⟩:=ansL_eq (cons nd em (l.take (spl l.length)) m mark)
       have hw:=@with_at gl d (by omega) (cons nd em (l.take (spl l.length)) m mark) (rt nd em (l.drop (spl l.length))) f1 sh1 (by omega) rb e2
       have na:=dgL_noImms (cons nd em (l.take (spl l.length)) m mark++[rt nd em (l.drop (spl l.length))])
       rw[e1]at a
       simp only[<-dgL_take]at a
       simp only[<-dgL_drop]at b
       generalize dgL (cons nd em (l.take (spl l.length)) m mark++[rt nd em (l.drop (spl l.length))])=y at *
       generalize rt nd em (l.drop (spl l.length))=r at *
       generalize cons nd em (l.take (spl l.length)) m mark=p at *
       generalize spl l.length=z at *
       generalize l.length=w at *
       rw[call_go (fd:=fd36) rfl]
       simp(implicitDefEqProofs:=false) (disch:=((fail_if_success (intro _));omega)) only[go_sem,simprocAttr,↓reduceIte,↓Nat.reduceEqDiff,xx,fd36,m36,hL,hT,sB_size,k,a,b,hw,na]
     . have b:=fun f'=>@rroot_at gl _ c d (l.take (spl l.length)) f' sB (by omega) (by omega) (ha.take _) (by omega) (Or.inr rfl)
       rw[cons_hi h2 he hlo,ansL_app,<-dgL_app]
       have rb:=rt_len (ha.take (spl l.length))
       have ei:(m:Int)-(spl l.length:Int)=((m-spl l.length:Nat):Int):=by omega
       have a:=fun f'=>@ih d (l.drop (spl l.length)) f' (m-spl l.length) false (by omega) (by omega) (ha.drop _) (by omega) (by omega) (by omega)
       have hN:=cons_le _ (l.drop (spl l.length)) (m-spl l.length) false (Nat.le_refl _) (by omega) (by omega)
       obtain⟨f1,sh1,e1,e2⟩:=ansL_eq (cons nd em (l.drop (spl l.length)) (m-spl l.length) false)
       have hw:=@with_at gl d (by omega) (cons nd em (l.drop (spl l.length)) (m-spl l.length) false) (rt nd em (l.take (spl l.length))) f1 sh1 (by omega) rb e2
       have na:=dgL_noImms (cons nd em (l.drop (spl l.length)) (m-spl l.length) false++[rt nd em (l.take (spl l.length))])
       rw[e1]at a
       simp only[<-dgL_drop]at a
       simp only[<-dgL_take]at b
       generalize dgL (cons nd em (l.drop (spl l.length)) (m-spl l.length) false++[rt nd em (l.take (spl l.length))])=y at *
       generalize rt nd em (l.take (spl l.length))=r at *
       generalize cons nd em (l.drop (spl l.length)) (m-spl l.length) false=p at *
       generalize spl l.length=z at *
       generalize l.length=w at *
       rw[call_go (fd:=fd36) rfl]
       simp(implicitDefEqProofs:=false) (disch:=((fail_if_success (intro _));omega)) only[go_sem,simprocAttr,↓reduceIte,↓Nat.reduceEqDiff,xx,fd36,m36,hL,hT,sB_size,k,a,b,hw,na,ei]
theorem rconsistency_ok (h:1000<=n){l:List Dg}{f:Bool}{sh:Sh}{m:Nat}(ha:All16 l)(hl:l.length<=900)(h1:1<=m)(hm:m<l.length)(hs:Sd l sh sB) :
  call gl tab n 13 [.lst f sh (dgL l),i64 m] []=some (.agg [ansL (cons nd em l m true),i64 0],[],[]):=by
 obtain⟨d,rfl⟩:=Nat.exists_eq_add_of_le' h
 have hL:=dgL_length l
 obtain rfl:sh=sB:=by rcases hs with hs|hs;subst hs;simp at hm;exact hs
 have a:=@rcons_at gl _ l.length (d+999) l f m true (Nat.le_refl _) (by omega) ha (by omega) h1 (by omega)
 obtain⟨f1,sh1,e1,e2⟩:=ansL_eq (cons nd em l m true)
 have na:=dgL_noImms (cons nd em l m true)
 rw[e1]at a ⊢
 generalize cons nd em l m true=p at *
 generalize l.length=w at *
 rw[call_go (fd:=fd13) rfl]
 simp(disch:=((fail_if_success (intro _));omega)) only[go_sem,simprocAttr,↓reduceIte,↓Nat.reduceEqDiff,xx,fd13,m13,hL,a,na]
end
theorem rconsistency_bad (h:1<=n){l:List Dg}{f:Bool}{sh:Sh}{m:Int}(hl:l.length<=1000000)(hm:¬(0<=m/\m<=l.length)) :
  call gl tab n 13 [.lst f sh (dgL l),i64 m] []=some (.agg [nilA,i64 1],[],[]):=by
 obtain⟨d,rfl⟩:=Nat.exists_eq_add_of_le' h
 have hL:=dgL_length l
 rw[call_go (fd:=fd13) rfl]
 by_cases h1:m<0
 . simp(disch:=((fail_if_success (intro _));omega)) only[go_sem,simprocAttr,↓reduceIte,↓Nat.reduceEqDiff,xx,fd13,m13,hL]
 . have h2:(l.length:Int)<m:=by omega
   simp(disch:=((fail_if_success (intro _));omega)) only[go_sem,simprocAttr,↓reduceIte,↓Nat.reduceEqDiff,xx,fd13,m13,hL]
theorem rconsistency_end (h:1<=n){l:List Dg}{f:Bool}{sh:Sh}{m:Nat}(hl:l.length<=1000000)(hm:m=0\/m=l.length) :
  call gl tab n 13 [.lst f sh (dgL l),i64 m] []=some (.agg [nilA,i64 0],[],[]):=by
 obtain⟨d,rfl⟩:=Nat.exists_eq_add_of_le' h
 have hL:=dgL_length l
 rw[call_go (fd:=fd13) rfl]
 rcases hm with rfl|rfl
 . simp(disch:=((fail_if_success (intro _));omega)) only[go_sem,simprocAttr,↓reduceIte,↓Nat.reduceEqDiff,xx,fd13,m13,hL]
 . by_cases h0:l.length=0
   . rw[h0];simp(disch:=((fail_if_success (intro _));omega)) only[go_sem,simprocAttr,↓reduceIte,↓Nat.reduceEqDiff,xx,fd13,m13,hL,h0]
   . simp(disch:=((fail_if_success (intro _));omega)) only[go_sem,simprocAttr,↓reduceIte,↓Nat.reduceEqDiff,xx,fd13,m13,hL]
end Go.Proofs.S03
namespace Go.Proofs.S03
open Go Go.Ev Go.Proofs Go.Mk
open Go.Proofs.S03.H (GlK GlR)
variable {gl :Gl} {n:Nat}
abbrev sP :Sh:=.st [.sc,.sc]
abbrev PS (f:Bool)(sh:Sh)(p:List Dg)(s:Bool):OB:=.fix sP (.agg [.lst f sh (dgL p),.bool s])
theorem dgL_dropLast (p:List Dg):List.take (p.length-1) (dgL p)=dgL p.dropLast:=by rw[dgL_take,List.dropLast_eq_take]
theorem getLastD_at {p:List Dg}(z:Dg)(h:p≠[]):dgA p (p.length-1)=p.getLastD z:=by
 have hp:=List.length_pos_iff.2 h
 rw[dgA,List.getD_eq_getElem?_getD,List.getElem?_eq_getElem (by omega),Option.getD_some,List.getLastD_eq_getLast?,List.getLast?_eq_some_getLast h,Option.getD_some,List.getLast_eq_getElem]
theorem last_nil (h:1<=n){f:Bool}{sh:Sh}{s:Bool}:call gl tab n 52 [.ptr 100000 []] [(100000,PS f sh [] s)]=some (bAV z16,[(100000,PS f sh [] true)],[]):=by
 obtain⟨d,rfl⟩:=Nat.exists_eq_add_of_le' h
 show _=some (AV.agg (bytesAV z16),_,_)
 rw[<-z16_av]
 rw[call_gen (fd:=fd52) rfl]
 simp(disch:=((fail_if_success (intro _));omega)) only[go_sem,simprocAttr,↓reduceIte,↓Nat.reduceEqDiff,xx,fd52,m52,↓out16_eq,H.out16_len,H.out16_all,H.out16_pl,dgL_nil]
 rfl
theorem last_some (h:1<=n){p:List Dg}(hp:p≠[])(hl:p.length<=1000000)(ha:All16 p){f:Bool}{s:Bool} :
  call gl tab n 52 [.ptr 100000 []] [(100000,PS f sB p s)]=some (bAV (p.getLastD z16),[(100000,PS true sB p.dropLast s)],[]):=by
 obtain⟨d,rfl⟩:=Nat.exists_eq_add_of_le' h
 have h1:=List.length_pos_iff.2 hp
 have hL:=dgL_length p
 have hD:=dgL_dropLast p
 have hA:=dgL_at (l:=p) (i:=p.length-1) (by omega)
 have q1:=ha.at (i:=p.length-1) (by omega)
 rw[getLastD_at z16 hp]at hA q1
 have q2:=H.bytes_all (p.getLastD z16)
 generalize p.getLastD z16=r at *
 have e1:((p.length:Int)-1)=((p.length-1:Nat):Int):=by omega
 rw[call_gen (fd:=fd52) rfl]
 simp(implicitDefEqProofs:=false) (disch:=((fail_if_success (intro _));omega)) only[go_sem,simprocAttr,↓reduceIte,↓Nat.reduceEqDiff,xx,fd52,m52,↓out16_eq,H.out16_len,H.out16_all,H.out16_pl,hL,hD,hA,q1,q2,e1,sB_size]
theorem cl_len {z leaf:Dg}(h:leaf.length=16){i N:Nat}{p:List Dg}:(cl nd z leaf i N p).length=16:=by
 by_cases h2:2<=N
 . by_cases hi:i<spl N
   . rw[cl_lo h2 hi];exact nd_len _ _
   . rw[cl_hi h2 hi];exact nd_len _ _
 . rw[cl_one (by omega)];exact h
theorem getLastD_len {p:List Dg}(ha:All16 p):(p.getLastD z16).length=16:=by
 by_cases h:p=[]
 . subst h;rfl
 . rw[<-getLastD_at z16 h];exact ha.at (by have:=List.length_pos_iff.2 h;omega)
theorem All16.dropLast {p:List Dg}(h:All16 p):All16 p.dropLast:=by rw[List.dropLast_eq_take];exact h.take _
def lft (p:List Dg)(k:Nat):List Dg:=p.take (p.length-k)
def shr (p:List Dg)(s:Bool)(k:Nat):Bool:=s||decide (p.length<k)
theorem lft_zero (p:List Dg):lft p 0=p:=by simp[lft]
theorem shr_zero (p:List Dg)(s:Bool):shr p s 0=s:=by simp[shr]
theorem lft_succ (p:List Dg)(k:Nat):lft p (k+1)=lft p.dropLast k:=by
 rw[lft,lft,List.dropLast_eq_take,List.take_take,List.length_take]
 congr 1;omega
theorem shr_succ_nil (s:Bool)(k:Nat):shr [] s (k+1)=shr [] true k:=by simp[shr]
theorem shr_succ {p:List Dg}(h:p≠[])(s:Bool)(k:Nat):shr p s (k+1)=shr p.dropLast s k:=by
 have:=List.length_pos_iff.2 h
 simp only[shr,List.length_dropLast]
 congr 1
 exact decide_eq_decide.2 (by omega)
theorem lft_nil (k:Nat):lft [] k=[]:=by simp[lft]
abbrev CH (leaf:Dg)(f:Bool)(sh:Sh)(p:List Dg)(s:Bool):Hp :=
 [(100000,.fix (.ar 16 .sc) (bAV leaf)),(100001,.fix .sc (.ptr 100002 [])),(100002,PS f sh p s),(100003,.fix .sc (.fn 51 [.ptr 100000 [],.ptr 100001 [],.ptr 100003 []]))]
theorem climb_one (h:1<=n){leaf:Dg}(hf:leaf.length=16){i N:Nat}(hN:N=1){f:Bool}{sh:Sh}{p:List Dg}{s:Bool} :
  call gl tab n 51 [i64 i,i64 N,.ptr 100000 [],.ptr 100001 [],.ptr 100003 []] (CH leaf f sh p s)=some (bAV leaf,CH leaf f sh p s,[]):=by
 obtain⟨d,rfl⟩:=Nat.exists_eq_add_of_le' h
 have q2:=H.bytes_all leaf
 subst hN
 rw[call_gen (fd:=fd51) rfl]
 simp(disch:=((fail_if_success (intro _));omega)) only[go_sem,simprocAttr,↓reduceIte,↓Nat.reduceEqDiff,xx,fd51,m51,↓out16_eq,H.out16_len,H.out16_all,H.out16_pl,hf,q2]
section
variable [Nonempty (GlK gl)]
set_option maxHeartbeats 1000000 in
theorem climb_at :∀(c:Nat) {n:Nat} {leaf:Dg} {i N:Nat} {f:Bool} {sh:Sh} {p:List Dg} {s:Bool},leaf.length=16->N<=2^c->1<=N->i<N->c<=60->9+c<=n->All16 p->p.length<=1000000->Sd p sh sB ->
  ∃f',call gl tab n 51 [i64 i,i64 N,.ptr 100000 [],.ptr 100001 [],.ptr 100003 []] (CH leaf f sh p s)=some (bAV (cl nd z16 leaf i N p),CH leaf f' sh (lft p (dep i N)) (shr p s (dep i N)),[]):=by
 intro c
 induction c with
 | zero =>
   intro n leaf i N f sh p s hf hN h1 hi hc h ha hl hs
   have hN1:N=1:=by have:(2:Nat)^0=1:=rfl;omega
   rw[cl_one (by omega),dep_one (by omega),lft_zero,shr_zero]
   exact⟨f,climb_one (by omega) hf hN1⟩
 | succ c ih =>
   intro n leaf i N f sh p s hf hN h1 hi hc h ha hl hs
   by_cases hN1:N=1
   . rw[cl_one (by omega),dep_one (by omega),lft_zero,shr_zero]
     exact⟨f,climb_one (by omega) hf hN1⟩
   obtain⟨d,rfl⟩:∃d,n=d+1:=⟨n-1,by omega⟩
   have h2:2<=N:=by omega
   have hk:=spl_lt h2
   have hp:=spl_pos N
   have hle:=spl_le h2 hN
   have hge:=@spl_ge N
   have h60:2^(c+1)<=2^60:=Nat.pow_le_pow_right (by omega) (by omega)
   have hN60:N<=1152921504606846976:=by have:(2:Nat)^60=1152921504606846976:=by decide
                                        omega
   have k:=@split_at gl d (by omega) N h2 (by omega)
   have q2:=H.bytes_all leaf
   have key:∃f1,(call gl tab d 52 [.ptr 100000 []] [(100000,PS f sh p s)]=some (bAV (p.getLastD z16),[(100000,PS f1 sh p.dropLast (shr p s 1))],[])):=by
    by_cases hp0:p=[]
    . subst hp0
      refine⟨f,?_⟩
      rw[show shr [] s 1=true by simp[shr]]
      exact last_nil (by omega)
    . obtain rfl:sh=sB:=by rcases hs with hs|hs;exact absurd hs hp0;exact hs
      refine⟨true,?_⟩
      rw[show shr p s 1=s from by rw[shr_succ hp0,shr_zero]]
      exact last_some (by omega) hp0 hl ha
   obtain⟨f1,key⟩:=key
   have hs':Sd p.dropLast sh sB:=by rcases hs with hs|hs;exact Or.inl (by rw[hs];rfl);exact Or.inr hs
   have e1:∀k,lft p.dropLast k=lft p (k+1):=fun k=>(lft_succ p k).symm
   have e2:∀k,shr p.dropLast (shr p s 1) k=shr p s (k+1):=fun k=>by
    by_cases hp0:p=[]
    . subst hp0;simp[shr]
    . rw[shr_succ hp0 s k,shr_succ hp0,shr_zero]
   have g1:=getLastD_len ha
   have g2:=H.bytes_all (p.getLastD z16)
   by_cases hlo:i<spl N
   . obtain⟨f2,a⟩:=@ih d leaf i (spl N) f1 sh p.dropLast (shr p s 1) hf hle (by omega) hlo (by omega) (by omega) ha.dropLast (by rw[List.length_dropLast];omega) hs'
     rw[e1,e2,<-dep_lo h2 hlo]at a
     have c1:=@cl_len z16 leaf hf i (spl N) p.dropLast
     have e:=@node_at gl d _ (by omega) _ _ c1 g1
     have e3:=nd_len (cl nd z16 leaf i (spl N) p.dropLast) (p.getLastD z16)
     have e4:=H.bytes_all (nd (cl nd z16 leaf i (spl N) p.dropLast) (p.getLastD z16))
     rw[cl_lo h2 hlo]
     refine⟨f2,?_⟩
     generalize nd (cl nd z16 leaf i (spl N) p.dropLast) (p.getLastD z16)=q at *
     generalize cl nd z16 leaf i (spl N) p.dropLast=qa at *
     generalize p.getLastD z16=r at *
     generalize spl N=z at *
     rw[call_gen (fd:=fd51) rfl]
     simp(implicitDefEqProofs:=false) (disch:=((fail_if_success (intro _));omega)) only[go_sem,simprocAttr,↓reduceIte,↓Nat.reduceEqDiff,xx,fd51,m51,↓out16_eq,H.out16_len,H.out16_all,H.out16_pl,k,key,a,e,e3,e4,g1,g2,q2,hf]
   . have ei:(i:Int)-(spl N:Int)=((i-spl N:Nat):Int):=by omega
     have eN:(N:Int)-(spl N:Int)=((N-spl N:Nat):Int):=by omega
     obtain⟨f2,a⟩:=@ih d leaf (i-spl N) (N-spl N) f1 sh p.dropLast (shr p s 1) hf (by omega) (by omega) (by omega) (by omega) (by omega) ha.dropLast (by rw[List.length_dropLast];omega) hs'
     rw[e1,e2,<-dep_hi h2 hlo]at a
     have c1:=@cl_len z16 leaf hf (i-spl N) (N-spl N) p.dropLast
     have e:=@node_at gl d _ (by omega) _ _ g1 c1
     have e3:=nd_len (p.getLastD z16) (cl nd z16 leaf (i-spl N) (N-spl N) p.dropLast)
     have e4:=H.bytes_all (nd (p.getLastD z16) (cl nd z16 leaf (i-spl N) (N-spl N) p.dropLast))
     rw[cl_hi h2 hlo]
     refine⟨f2,?_⟩
     generalize nd (p.getLastD z16) (cl nd z16 leaf (i-spl N) (N-spl N) p.dropLast)=q at *
     generalize cl nd z16 leaf (i-spl N) (N-spl N) p.dropLast=qa at *
     generalize p.getLastD z16=r at *
     generalize spl N=z at *
     rw[call_gen (fd:=fd51) rfl]
     simp(implicitDefEqProofs:=false) (disch:=((fail_if_success (intro _));omega)) only[go_sem,simprocAttr,↓reduceIte,↓Nat.reduceEqDiff,xx,fd51,m51,↓out16_eq,H.out16_len,H.out16_all,H.out16_pl,k,key,a,e,e3,e4,g1,g2,q2,hf,ei,eN]
end
end Go.Proofs.S03
