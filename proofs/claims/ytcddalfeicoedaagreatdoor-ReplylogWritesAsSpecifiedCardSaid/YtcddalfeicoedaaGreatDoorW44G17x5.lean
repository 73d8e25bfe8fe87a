/-
  Chapter 3: the proof of an element. No condition.
-/
import Derived.Test.YtcddalfeicoedaaGreatDoorW44G16x5
set_option linter.unusedVariables false
set_option linter.unusedSimpArgs false
set_option linter.unusedSectionVars false
namespace Go.Proofs.S44.M
open Go Go.Ev Go.Proofs Go.Mk
open Go.Proofs.S44.H (GlK GlR)
variable {gl :Gl} {n:Nat}
abbrev nilA :AV:=.lst true .sc []
abbrev F32 :OB:=.fix .sc (.fn 116 [.ptr 100000 [],.ptr 100001 []])
theorem incl_le :∀(c:Nat) (l:List Dg) (i:Nat),l.length<=c->(incl nd em l i).length<=l.length
 | 0,l,i,h=>by rw[incl_one (by omega)];simp
 | c+1,l,i,h=>by
   by_cases h2:2<=l.length
   . have hk:=spl_lt h2
     have hp:=spl_pos l.length
     by_cases hi:i<spl l.length
     . rw[incl_lo h2 hi,List.length_append,List.length_singleton]
       have:=incl_le c (l.take (spl l.length)) i (by rw[List.length_take];omega)
       rw[List.length_take]at this;omega
     . rw[incl_hi h2 hi,List.length_append,List.length_singleton]
       have:=incl_le c (l.drop (spl l.length)) (i-spl l.length) (by rw[List.length_drop];omega)
       rw[List.length_drop]at this;omega
   . rw[incl_one (by omega)];simp
theorem prove32_one (h:1<=n){l:List Dg}{f:Bool}(i:Nat)(h1:l.length=1) :
  call gl tab n 116 [.lst f sB (dgL l),i64 i,.ptr 100000 [],.ptr 100001 []] [(100000,F32),(100001,.fix .sc nilA)]=some (.tup [],[(100000,F32),(100001,.fix .sc nilA)],[]):=by
 obtain⟨d,rfl⟩:=Nat.exists_eq_add_of_le' h
 have hL:=dgL_length l
 rw[call_gen (fd:=fd116) rfl]
 simp(disch:=((fail_if_success (intro _));omega)) only[go_sem,simprocAttr,↓reduceIte,↓Nat.reduceEqDiff,xx,fd116,m116,hL,h1]
section
variable [Nonempty (GlK gl)]
theorem prove32 :∀(c:Nat) {n:Nat} (l:List Dg) (f:Bool) (i:Nat),l.length<=c->9+c<=n->All16 l->l.length<=1000000->i<l.length->2<=l.length ->
  call gl tab n 116 [.lst f sB (dgL l),i64 i,.ptr 100000 [],.ptr 100001 []] [(100000,F32),(100001,.fix .sc nilA)] =
   some (.tup [],[(100000,F32),(100001,.fix .sc (.sl 20000 [] 0 (incl nd em l i).length))],[.grow sB (dgL (incl nd em l i))]):=by
 intro c
 induction c with
 | zero=>intro n l f i hc h ha hl hi h2;omega
 | succ c ih =>
   intro n l f i hc h ha hl hi h2
   obtain⟨d,rfl⟩:∃d,n=d+1:=⟨n-1,by omega⟩
   have hL:=dgL_length l
   have hT:=dgL_all l
   have hk:=spl_lt h2
   have hp:=spl_pos l.length
   have k:=@split_at gl d (by omega) l.length h2 (by omega)
   have na:=dgL_noImms
   have l1:1<=LIM:=by unfold LIM;omega
   by_cases hlo:i<spl l.length
   . have b:=fun f'=>@root_at gl _ c d (l.drop (spl l.length)) f' sB (by rw[List.length_drop];omega) (by omega) (ha.drop _) (by rw[List.length_drop];omega) (Or.inr rfl)
     rw[incl_lo h2 hlo,dgL_app,List.length_append,List.length_singleton]
     have rb:=rt_len (ha.drop (spl l.length))
     have qb:=H.bytes_all (rt nd em (l.drop (spl l.length)))
     have tl:(l.take (spl l.length)).length=spl l.length:=by rw[List.length_take];omega
     by_cases h3:2<=spl l.length
     . have a:=fun f'=>@ih d (l.take (spl l.length)) f' i (by omega) (by omega) (ha.take _) (by omega) (by omega) (by omega)
       have hN:=incl_le _ (l.take (spl l.length)) i (Nat.le_refl _)
       have hM:=dgL_length (incl nd em (l.take (spl l.length)) i)
       simp only[<-dgL_take]at a
       simp only[<-dgL_drop]at b
       generalize rt nd em (l.drop (spl l.length))=r at *
       generalize incl nd em (l.take (spl l.length)) i=p at *
       rw[tl]at hN
       have hlim:p.length+1<=LIM:=by unfold LIM;omega
       generalize spl l.length=z at *
       generalize l.length=w at *
       rw[call_gen (fd:=fd116) rfl]
       simp(implicitDefEqProofs:=false) (disch:=((fail_if_success (intro _));omega)) only[go_sem,simprocAttr,↓reduceIte,↓Nat.reduceEqDiff,xx,fd116,m116,↓out16_eq,H.out16_len,H.out16_all,H.out16_pl,hL,hT,hM,sB_size,k,a,b,rb,qb,na,H.noImms_bytesAV]
     . have a:=fun f'=>@prove32_one gl d (by omega) (l.take (spl l.length)) f' i (by omega)
       rw[incl_one (l:=l.take (spl l.length)) (by omega)]
       simp only[<-dgL_take]at a
       simp only[<-dgL_drop]at b
       generalize rt nd em (l.drop (spl l.length))=r at *
       generalize spl l.length=z at *
       generalize l.length=w at *
       rw[call_gen (fd:=fd116) rfl]
       simp(implicitDefEqProofs:=false) (disch:=((fail_if_success (intro _));omega)) only[go_sem,simprocAttr,↓reduceIte,↓Nat.reduceEqDiff,xx,fd116,m116,↓out16_eq,H.out16_len,H.out16_all,H.out16_pl,hL,hT,sB_size,k,a,b,rb,qb,na,H.noImms_bytesAV,dgL_nil]
   . have b:=fun f'=>@root_at gl _ c d (l.take (spl l.length)) f' sB (by rw[List.length_take];omega) (by omega) (ha.take _) (by rw[List.length_take];omega) (Or.inr rfl)
     rw[incl_hi h2 hlo,dgL_app,List.length_append,List.length_singleton]
     have rb:=rt_len (ha.take (spl l.length))
     have qb:=H.bytes_all (rt nd em (l.take (spl l.length)))
     have tl:(l.drop (spl l.length)).length=l.length-spl l.length:=by rw[List.length_drop]
     have ei:(i:Int)-(spl l.length:Int)=((i-spl l.length:Nat):Int):=by omega
     by_cases h3:2<=l.length-spl l.length
     . have a:=fun f'=>@ih d (l.drop (spl l.length)) f' (i-spl l.length) (by omega) (by omega) (ha.drop _) (by omega) (by omega) (by omega)
       have hN:=incl_le _ (l.drop (spl l.length)) (i-spl l.length) (Nat.le_refl _)
       have hM:=dgL_length (incl nd em (l.drop (spl l.length)) (i-spl l.length))
       simp only[<-dgL_drop]at a
       simp only[<-dgL_take]at b
       generalize rt nd em (l.take (spl l.length))=r at *
       generalize incl nd em (l.drop (spl l.length)) (i-spl l.length)=p at *
       rw[tl]at hN
       have hlim:p.length+1<=LIM:=by unfold LIM;omega
       generalize spl l.length=z at *
       generalize l.length=w at *
       rw[call_gen (fd:=fd116) rfl]
       simp(implicitDefEqProofs:=false) (disch:=((fail_if_success (intro _));omega)) only[go_sem,simprocAttr,↓reduceIte,↓Nat.reduceEqDiff,xx,fd116,m116,↓out16_eq,H.out16_len,H.out16_all,H.out16_pl,hL,hT,hM,sB_size,k,a,b,rb,qb,na,H.noImms_bytesAV,ei]
     . have a:=fun f'=>@prove32_one gl d (by omega) (l.drop (spl l.length)) f' (i-spl l.length) (by omega)
       rw[incl_one (l:=l.drop (spl l.length)) (by omega)]
       simp only[<-dgL_drop]at a
       simp only[<-dgL_take]at b
       generalize rt nd em (l.take (spl l.length))=r at *
       generalize spl l.length=z at *
       generalize l.length=w at *
       rw[call_gen (fd:=fd116) rfl]
       simp(implicitDefEqProofs:=false) (disch:=((fail_if_success (intro _));omega)) only[go_sem,simprocAttr,↓reduceIte,↓Nat.reduceEqDiff,xx,fd116,m116,↓out16_eq,H.out16_len,H.out16_all,H.out16_pl,hL,hT,sB_size,k,a,b,rb,qb,na,H.noImms_bytesAV,dgL_nil,ei]
end
end Go.Proofs.S44.M
namespace Go.Proofs.S44.M
open Go Go.Ev Go.Proofs Go.Mk
open Go.Proofs.S44.H (GlK GlR)
variable {gl :Gl} {n:Nat}
theorem fn_scalar {k:Nat}{c:List AV}:(AV.fn k c).scalar=true:=rfl
section
variable [Nonempty (GlK gl)]
theorem inclusion_ok (h:1000<=n){l:List Dg}{f:Bool}{sh:Sh}{i:Nat}(ha:All16 l)(hl:l.length<=900)(hi:i<l.length)(hs:Sd l sh sB) :
  call gl tab n 67 [.lst f sh (dgL l),i64 i] []=some (.tup [.sl 20000 [] 0 (incl nd em l i).length,i64 0],[],[.grow sB (dgL (incl nd em l i))]):=by
 obtain⟨d,rfl⟩:=Nat.exists_eq_add_of_le' h
 have hL:=dgL_length l
 obtain rfl:sh=sB:=by rcases hs with hs|hs;subst hs;simp at hi;exact hs
 by_cases h2:2<=l.length
 . have a:=@prove32 gl _ l.length (d+999) l f i (Nat.le_refl _) (by omega) ha (by omega) hi h2
   have hN:incl nd em l i≠[]:=by
    by_cases hlo:i<spl l.length
    . rw[incl_lo h2 hlo];simp
    . rw[incl_hi h2 hlo];simp
   have hM:=dgL_length (incl nd em l i)
   have hT:=dgL_all (incl nd em l i)
   have na:=dgL_noImms (incl nd em l i)
   generalize incl nd em l i=p at *
   generalize l.length=w at *
   rw[call_go (fd:=fd67) rfl]
   simp(disch:=((fail_if_success (intro _));omega)) only[go_sem,simprocAttr,↓reduceIte,↓Nat.reduceEqDiff,xx,fd67,m67,hL,hM,hT,a,na,fn_scalar]
 . have a:=@prove32_one gl (d+999) (by omega) l f i (by omega)
   rw[incl_one (by omega),List.length_nil,dgL_nil]
   generalize l.length=w at *
   rw[call_go (fd:=fd67) rfl]
   simp(disch:=((fail_if_success (intro _));omega)) only[go_sem,simprocAttr,↓reduceIte,↓Nat.reduceEqDiff,xx,fd67,m67,hL,a,fn_scalar]
end
section
variable [Nonempty (GlR gl)]
end
end Go.Proofs.S44.M
namespace Go.Proofs.S44.M
open Go Go.Ev Go.Proofs Go.Mk
open Go.Proofs.S44.H (GlK GlR)
variable {gl :Gl} {n:Nat}
abbrev sP :Sh:=.st [.sc,.sc]
abbrev PS (f:Bool)(sh:Sh)(p:List Dg)(s:Bool):OB:=.fix sP (.agg [.lst f sh (dgL p),.bool s])
theorem dgL_dropLast (p:List Dg):List.take (p.length-1) (dgL p)=dgL p.dropLast:=by rw[dgL_take,List.dropLast_eq_take]
theorem getLastD_at {p:List Dg}(z:Dg)(h:p≠[]):dgA p (p.length-1)=p.getLastD z:=by
 have hp:=List.length_pos_iff.2 h
 rw[dgA,List.getD_eq_getElem?_getD,List.getElem?_eq_getElem (by omega),Option.getD_some,List.getLastD_eq_getLast?,List.getLast?_eq_some_getLast h,Option.getD_some,List.getLast_eq_getElem]
theorem last_nil (h:1<=n){f:Bool}{sh:Sh}{s:Bool}:call gl tab n 121 [.ptr 100000 []] [(100000,PS f sh [] s)]=some (bAV z16,[(100000,PS f sh [] true)],[]):=by
 obtain⟨d,rfl⟩:=Nat.exists_eq_add_of_le' h
 show _=some (AV.agg (bytesAV z16),_,_)
 rw[<-z16_av]
 rw[call_gen (fd:=fd121) rfl]
 simp(disch:=((fail_if_success (intro _));omega)) only[go_sem,simprocAttr,↓reduceIte,↓Nat.reduceEqDiff,xx,fd121,m121,↓out16_eq,H.out16_len,H.out16_all,H.out16_pl,dgL_nil]
 rfl
theorem last_some (h:1<=n){p:List Dg}(hp:p≠[])(hl:p.length<=1000000)(ha:All16 p){f:Bool}{s:Bool} :
  call gl tab n 121 [.ptr 100000 []] [(100000,PS f sB p s)]=some (bAV (p.getLastD z16),[(100000,PS true sB p.dropLast s)],[]):=by
 obtain⟨d,rfl⟩:=Nat.exists_eq_add_of_le' h
 have h1:=List.length_pos_iff.2 hp
 have hL:=dgL_length p
 have hD:=dgL_dropLast p
 have hA:=dgL_at (l:=p) (i:=p.length-1) (by omega)
 have q1:=ha.at (i:=p.length-1) (by omega)
 rw[getLastD_at z16 hp]at hA q1
 have q2:=H.bytes_all (p.getLastD z16)
 generalize p.getLastD z16=r at *
 have e1:((p.length:Int)-1)=((p.length-1:Nat):Int):=by omega
 rw[call_gen (fd:=fd121) rfl]
 simp(implicitDefEqProofs:=false) (disch:=((fail_if_success (intro _));omega)) only[go_sem,simprocAttr,↓reduceIte,↓Nat.reduceEqDiff,xx,fd121,m121,↓out16_eq,H.out16_len,H.out16_all,H.out16_pl,hL,hD,hA,q1,q2,e1,sB_size]
theorem cl_len {z leaf:Dg}(h:leaf.length=16){i N:Nat}{p:List Dg}:(cl nd z leaf i N p).length=16:=by
 by_cases h2:2<=N
 . by_cases hi:i<spl N
   . rw[cl_lo h2 hi];exact nd_len _ _
   . rw[cl_hi h2 hi];exact nd_len _ _
 . rw[cl_one (by omega)];exact h
theorem getLastD_len {p:List Dg}(ha:All16 p):(p.getLastD z16).length=16:=by
 by_cases h:p=[]
 . subst h;rfl
 . rw[<-getLastD_at z16 h];exact ha.at (by have:=List.length_pos_iff.2 h;omega)
theorem All16.dropLast {p:List Dg}(h:All16 p):All16 p.dropLast:=by rw[List.dropLast_eq_take];exact h.take _
def lft (p:List Dg)(k:Nat):List Dg:=p.take (p.length-k)
def shr (p:List Dg)(s:Bool)(k:Nat):Bool:=s||decide (p.length<k)
theorem lft_zero (p:List Dg):lft p 0=p:=by simp[lft]
theorem shr_zero (p:List Dg)(s:Bool):shr p s 0=s:=by simp[shr]
theorem lft_succ (p:List Dg)(k:Nat):lft p (k+1)=lft p.dropLast k:=by
 rw[lft,lft,List.dropLast_eq_take,List.take_take,List.length_take]
 congr 1;omega
theorem shr_succ {p:List Dg}(h:p≠[])(s:Bool)(k:Nat):shr p s (k+1)=shr p.dropLast s k:=by
 have:=List.length_pos_iff.2 h
 simp only[shr,List.length_dropLast]
 congr 1
 exact decide_eq_decide.2 (by omega)
abbrev CH (leaf:Dg)(f:Bool)(sh:Sh)(p:List Dg)(s:Bool):Hp :=
 [(100000,.fix (.ar 16 .sc) (bAV leaf)),(100001,.fix .sc (.ptr 100002 [])),(100002,PS f sh p s),(100003,.fix .sc (.fn 120 [.ptr 100000 [],.ptr 100001 [],.ptr 100003 []]))]
theorem climb_one (h:1<=n){leaf:Dg}(hf:leaf.length=16){i N:Nat}(hN:N=1){f:Bool}{sh:Sh}{p:List Dg}{s:Bool} :
  call gl tab n 120 [i64 i,i64 N,.ptr 100000 [],.ptr 100001 [],.ptr 100003 []] (CH leaf f sh p s)=some (bAV leaf,CH leaf f sh p s,[]):=by
 obtain⟨d,rfl⟩:=Nat.exists_eq_add_of_le' h
 have q2:=H.bytes_all leaf
 subst hN
 rw[call_gen (fd:=fd120) rfl]
 simp(disch:=((fail_if_success (intro _));omega)) only[go_sem,simprocAttr,↓reduceIte,↓Nat.reduceEqDiff,xx,fd120,m120,↓out16_eq,H.out16_len,H.out16_all,H.out16_pl,hf,q2]
section
variable [Nonempty (GlK gl)]
set_option maxHeartbeats 1000000 in
theorem climb_at :∀(c:Nat) {n:Nat} {leaf:Dg} {i N:Nat} {f:Bool} {sh:Sh} {p:List Dg} {s:Bool},leaf.length=16->N<=2^c->1<=N->i<N->c<=60->9+c<=n->All16 p->p.length<=1000000->Sd p sh sB ->
  ∃f',call gl tab n 120 [i64 i,i64 N,.ptr 100000 [],.ptr 100001 [],.ptr 100003 []] (CH leaf f sh p s)=some (bAV (cl nd z16 leaf i N p),CH leaf f' sh (lft p (dep i N)) (shr p s (dep i N)),[]):=by
 intro c
 induction c with
 | zero =>
   intro n leaf i N f sh p s hf hN h1 hi hc h ha hl hs
   have hN1:N=1:=by have:(2:Nat)^0=1:=rfl;omega
   rw[cl_one (by omega),dep_one (by omega),lft_zero,shr_zero]
   exact⟨f,climb_one (by omega) hf hN1⟩
 | succ c ih =>
   intro n leaf i N f sh p s hf hN h1 hi hc h ha hl hs
   by_cases hN1:N=1
   . rw[cl_one (by omega),dep_one (by omega),lft_zero,shr_zero]
     exact⟨f,climb_one (by omega) hf hN1⟩
   obtain⟨d,rfl⟩:∃d,n=d+1:=⟨n-1,by omega⟩
   have h2:2<=N:=by omega
   have hk:=spl_lt h2
   have hp:=spl_pos N
   have hle:=spl_le h2 hN
   have hge:=@spl_ge N
   have h60:2^(c+1)<=2^60:=Nat.pow_le_pow_right (by omega) (by omega)
   have hN60:N<=1152921504606846976:=by have:(2:Nat)^60=1152921504606846976:=by decide
                                        omega
   have k:=@split_at gl d (by omega) N h2 (by omega)
   have q2:=H.bytes_all leaf
   have key:∃f1,(call gl tab d 121 [.ptr 100000 []] [(100000,PS f sh p s)]=some (bAV (p.getLastD z16),[(100000,PS f1 sh p.dropLast (shr p s 1))],[])):=by
    by_cases hp0:p=[]
    . subst hp0
      refine⟨f,?_⟩
      rw[show shr [] s 1=true by simp[shr]]
      exact last_nil (by omega)
    . obtain rfl:sh=sB:=by rcases hs with hs|hs;exact absurd hs hp0;exact hs
      refine⟨true,?_⟩
      rw[show shr p s 1=s from by rw[shr_succ hp0,shr_zero]]
      exact last_some (by omega) hp0 hl ha
   obtain⟨f1,key⟩:=key
   have hs':Sd p.dropLast sh sB:=by rcases hs with hs|hs;exact Or.inl (by rw[hs];rfl);exact Or.inr hs
   have e1:∀k,lft p.dropLast k=lft p (k+1):=fun k=>(lft_succ p k).symm
   have e2:∀k,shr p.dropLast (shr p s 1) k=shr p s (k+1):=fun k=>by
    by_cases hp0:p=[]
    . subst hp0;simp[shr]
    . rw[shr_succ hp0 s k,shr_succ hp0,shr_zero]
   have g1:=getLastD_len ha
   have g2:=H.bytes_all (p.getLastD z16)
   by_cases hlo:i<spl N
   . obtain⟨f2,a⟩:=@ih d leaf i (spl N) f1 sh p.dropLast (shr p s 1) hf hle (by omega) hlo (by omega) (by omega) ha.dropLast (by rw[List.length_dropLast];omega) hs'
     rw[e1,e2,<-dep_lo h2 hlo]at a
     have c1:=@cl_len z16 leaf hf i (spl N) p.dropLast
     have e:=@node_at gl d _ (by omega) _ _ c1 g1
     have e3:=nd_len (cl nd z16 leaf i (spl N) p.dropLast) (p.getLastD z16)
     have e4:=H.bytes_all (nd (cl nd z16 leaf i (spl N) p.dropLast) (p.getLastD z16))
     rw[cl_lo h2 hlo]
     refine⟨f2,?_⟩
     generalize nd (cl nd z16 leaf i (spl N) p.dropLast) (p.getLastD z16)=q at *
     generalize cl nd z16 leaf i (spl N) p.dropLast=qa at *
     generalize p.getLastD z16=r at *
     generalize spl N=z at *
     rw[call_gen (fd:=fd120) rfl]
     simp(implicitDefEqProofs:=false) (disch:=((fail_if_success (intro _));omega)) only[go_sem,simprocAttr,↓reduceIte,↓Nat.reduceEqDiff,xx,fd120,m120,↓out16_eq,H.out16_len,H.out16_all,H.out16_pl,k,key,a,e,e3,e4,g1,g2,q2,hf]
   . have ei:(i:Int)-(spl N:Int)=((i-spl N:Nat):Int):=by omega
     have eN:(N:Int)-(spl N:Int)=((N-spl N:Nat):Int):=by omega
     obtain⟨f2,a⟩:=@ih d leaf (i-spl N) (N-spl N) f1 sh p.dropLast (shr p s 1) hf (by omega) (by omega) (by omega) (by omega) (by omega) ha.dropLast (by rw[List.length_dropLast];omega) hs'
     rw[e1,e2,<-dep_hi h2 hlo]at a
     have c1:=@cl_len z16 leaf hf (i-spl N) (N-spl N) p.dropLast
     have e:=@node_at gl d _ (by omega) _ _ g1 c1
     have e3:=nd_len (p.getLastD z16) (cl nd z16 leaf (i-spl N) (N-spl N) p.dropLast)
     have e4:=H.bytes_all (nd (p.getLastD z16) (cl nd z16 leaf (i-spl N) (N-spl N) p.dropLast))
     rw[cl_hi h2 hlo]
     refine⟨f2,?_⟩
     generalize nd (p.getLastD z16) (cl nd z16 leaf (i-spl N) (N-spl N) p.dropLast)=q at *
     generalize cl nd z16 leaf (i-spl N) (N-spl N) p.dropLast=qa at *
     generalize p.getLastD z16=r at *
     generalize spl N=z at *
     rw[call_gen (fd:=fd120) rfl]
     simp(implicitDefEqProofs:=false) (disch:=((fail_if_success (intro _));omega)) only[go_sem,simprocAttr,↓reduceIte,↓Nat.reduceEqDiff,xx,fd120,m120,↓out16_eq,H.out16_len,H.out16_all,H.out16_pl,k,key,a,e,e3,e4,g1,g2,q2,hf,ei,eN]
end
end Go.Proofs.S44.M
