/-
  Chapter 3: the pairs that are hashed on the way to the root. No condition.
-/
import Derived.Test.YthelhoikbegjlaaDoorW03G25x6
set_option linter.unusedVariables false
set_option linter.unusedSimpArgs false
set_option linter.unusedSectionVars false
namespace Go.Proofs.S03
open Go Go.Ev Go.Proofs Go.Mk
open Go.Proofs.S03.H (GlK GlR)
variable {gl :Gl} {n:Nat}
def tn (i n:Nat):List Bool:=if h:2<=n then(if i<spl n then tn i (spl n)++[false]else tn (i-spl n) (n-spl n)++[true])else []
termination_by n
decreasing_by
 . exact spl_lt h
 . have:=spl_pos n;omega
theorem tn_one {i n:Nat}(h:n<2):tn i n=[]:=by rw[tn,dif_neg (by omega)]
theorem tn_lo {i n:Nat}(h:2<=n)(hi:i<spl n):tn i n=tn i (spl n)++[false]:=by rw[tn,dif_pos h,if_pos hi]
theorem tn_hi {i n:Nat}(h:2<=n)(hi:¬i<spl n):tn i n=tn (i-spl n) (n-spl n)++[true]:=by rw[tn,dif_pos h,if_neg hi]
theorem tn_len :∀(q i n:Nat),n<=q->(tn i n).length=dep i n
 | 0,i,n,h=>by rw[tn_one (by omega),dep_one (by omega)];rfl
 | q+1,i,n,h=>by
   by_cases h2:2<=n
   . have hk:=spl_lt h2
     have hp:=spl_pos n
     by_cases hi:i<spl n
     . rw[tn_lo h2 hi,dep_lo h2 hi,List.length_append,tn_len q _ _ (by omega)];rfl
     . rw[tn_hi h2 hi,dep_hi h2 hi,List.length_append,tn_len q _ _ (by omega)];rfl
   . rw[tn_one (by omega),dep_one (by omega)];rfl
def prT (b:Bool)(d x:Dg):Dg×Dg:=if b then(x,d)else(d,x)
def ups :List Bool->List Dg->Dg->List (Dg×Dg)×Dg
 | [],_,d=>([],d)
 | b::t,p,d=>let r:=ups t p.tail (nd (prT b d (p.headD z16)).1 (prT b d (p.headD z16)).2);(prT b d (p.headD z16)::r.1,r.2)
theorem ups_snoc :∀(t:List Bool) (b:Bool) (p:List Dg) (x d:Dg),p.length=t.length ->
  ups (t++[b]) (p++[x]) d=((ups t p d).1++[prT b (ups t p d).2 x],nd (prT b (ups t p d).2 x).1 (prT b (ups t p d).2 x).2)
 | [],b,p,x,d,h=>by
   obtain rfl:p=[]:=List.length_eq_zero_iff.1 (by simpa using h)
   rfl
 | c::t,b,p,x,d,h=>by
   match p,h with
   | y::p,h =>
     simp only[List.cons_append,ups,List.tail_cons,List.headD_cons]
     rw[ups_snoc t b p x _ (by simpa using h)]
theorem ups_stp :∀(q i n:Nat) (p:List Dg) (d:Dg),n<=q->p.length=dep i n->ups (tn i n) p d=(stp nd z16 d i n p,cl nd z16 d i n p)
 | 0,i,n,p,d,h,hp=>by rw[tn_one (by omega),stp_one (by omega),cl_one (by omega)];rfl
 | q+1,i,n,p,d,h,hp=>by
   by_cases h2:2<=n
   . have hk:=spl_lt h2
     have hp2:=spl_pos n
     have e:p=p.dropLast++[p.getLastD z16]:=by
      have hn:p≠[]:=by
       intro h0;subst h0
       by_cases hi:i<spl n
       . rw[dep_lo h2 hi]at hp;simp at hp
       . rw[dep_hi h2 hi]at hp;simp at hp
      rw[List.getLastD_eq_getLast?,List.getLast?_eq_some_getLast hn,Option.getD_some]
      exact(List.dropLast_concat_getLast hn).symm
     by_cases hi:i<spl n
     . rw[dep_lo h2 hi]at hp
       have hd:p.dropLast.length=dep i (spl n):=by rw[List.length_dropLast,hp];rfl
       have ih:=ups_stp q i (spl n) p.dropLast d (by omega) hd
       rw[tn_lo h2 hi,stp_lo h2 hi,cl_lo h2 hi]
       conv=>lhs;rw[e]
       rw[ups_snoc _ _ _ _ _ (by rw[tn_len _ _ _ (Nat.le_refl _)];exact hd),ih];rfl
     . rw[dep_hi h2 hi]at hp
       have hd:p.dropLast.length=dep (i-spl n) (n-spl n):=by rw[List.length_dropLast,hp];rfl
       have ih:=ups_stp q (i-spl n) (n-spl n) p.dropLast d (by omega) hd
       rw[tn_hi h2 hi,stp_hi h2 hi,cl_hi h2 hi]
       conv=>lhs;rw[e]
       rw[ups_snoc _ _ _ _ _ (by rw[tn_len _ _ _ (Nat.le_refl _)];exact hd),ih];rfl
   . rw[tn_one (by omega),stp_one (by omega),cl_one (by omega)];rfl
abbrev pr1 (x:Dg×Dg):AV:=.agg [bAV x.1,bAV x.2]
def prL (l:List (Dg×Dg)):List AV:=l.map pr1
theorem prL_length (l:List (Dg×Dg)):(prL l).length=l.length:=by simp[prL]
def bL (t:List Bool):List AV:=t.map AV.bool
theorem bL_length (t:List Bool):(bL t).length=t.length:=by simp[bL]
theorem bL_noImms :∀(t:List Bool),noImms (bL t)=true
 | []=>rfl
 | b::t=>by rw[bL,List.map_cons,noImms,<-bL,bL_noImms t];rfl
abbrev sPr :Sh:=.ar 2 (.ar 16 .sc)
def L27 :MC:=match m27 with| .seq _ (.seq _ (.seq (.block _ (.loop _ b)) _))=>b|_=>.skip
def L27b :MC:=match m27 with| .seq _ (.seq _ (.seq (.block _ (.loop _ (.seq _ (.block _ (.seq _ (.seq (.block _ (.loop _ b)) _)))))) _))=>b|_=>.skip
def L27c :MC:=match m27 with| .seq _ (.seq _ (.seq _ (.seq _ (.seq _ (.seq (.seq _ (.block _ (.loop _ b))) _)))))=>b|_=>.skip
def SA (d:Dg)(f:Bool)(sh:Sh)(p:List Dg)(a:Nat×Nat×List Bool):St :=
 ⟨[.set 9 (.sl 5009 [] 0 a.2.2.length),.set 4 (.ptr 4 []),.set 3 (.lst f sh (dgL p)),.set 2 (i64 a.2.1),.set 1 (i64 a.1)],[(4,.fix (.ar 16 .sc) (bAV d)),(5009,.grow .sc (bL a.2.2))]⟩
def SB (d:Dg)(f:Bool)(sh:Sh)(p:List Dg)(a:Nat×Nat×List Bool)(j:Nat):St :=
 ⟨[.set 10 (i64 ((2^j:Nat):Int)),.set 9 (.sl 5009 [] 0 a.2.2.length),.set 4 (.ptr 4 []),.set 3 (.lst f sh (dgL p)),.set 2 (i64 a.2.1),.set 1 (i64 a.1)],[(4,.fix (.ar 16 .sc) (bAV d)),(5009,.grow .sc (bL a.2.2))]⟩
def nx (a:Nat×Nat×List Bool):Nat×Nat×List Bool:=if a.1<spl a.2.1 then(a.1,spl a.2.1,false::a.2.2)else(a.1-spl a.2.1,a.2.1-spl a.2.1,true::a.2.2)
theorem stepB {k:Nat}{d:Dg}{f:Bool}{sh:Sh}{p:List Dg}{i N:Nat}{t:List Bool}(hN:2<=N)(hN2:N<=1099511627776)(j:Nat)(hj:j<(N-1).log2) :
  contK [.slot 1,.slot 2,.slot 3,.slot 4,.own 9 5009 .sc,.slot 10,.key 4] (evC gl (call gl tab k) L27b (SB d f sh p (i,N,t) j))=some (SB d f sh p (i,N,t) (j+1)):=by
 have h1:2^(j+1)<=2^(N-1).log2:=Nat.pow_le_pow_right (by omega) (by omega)
 have h2:=Nat.log2_self_le (show N-1≠0 by omega)
 have h3:2*2^j<N:=by rw[Nat.pow_succ]at h1;omega
 have e:((2^(j+1):Nat):Int)=2*((2^j:Nat):Int):=by rw[Nat.pow_succ];omega
 have hL:=bL_length t
 rw[SB,SB,e]
 generalize 2^j=x at *
 simp(disch:=((fail_if_success (intro _));omega)) only[go_sem,simprocAttr,↓reduceIte,↓Nat.reduceEqDiff,xx,L27b,m27,hL]
theorem stepA {k:Nat}{d:Dg}{f:Bool}{sh:Sh}{p:List Dg}{i N:Nat}{t:List Bool}(hN:2<=N)(hN2:N<=1099511627776)(hi:i<N)(ht:t.length<=1000) :
  contK [.slot 1,.slot 2,.slot 3,.slot 4,.own 9 5009 .sc,.key 4] (evC gl (call gl tab k) L27 (SA d f sh p (i,N,t)))=some (SA d f sh p (nx (i,N,t))):=by
 have hk:=spl_lt hN
 have hp:=spl_pos N
 have hge:=@spl_ge N
 have st:=fun j hj=>@stepB gl k d f sh p i N t hN hN2 j hj
 simp only[L27b,m27]at st
 have hL:=bL_length t
 have e:2^(N-1).log2=spl N:=rfl
 have hT:List.take t.length (bL t)=bL t:=List.take_of_length_le (by rw[hL];exact Nat.le_refl _)
 have hlim:t.length+1<=LIM:=by unfold LIM;omega
 have n0:=bL_noImms t
 rw[nx,SA]
 simp(disch:=((fail_if_success (intro _));omega)) only[go_sem,simprocAttr,↓reduceIte,↓Nat.reduceEqDiff,xx,L27,m27]
 rw[iter_to (SB d f sh p (i,N,t)) (N-1).log2 (by have:=Nat.log2_lt (show N-1≠0 by omega) (k:=64);unfold LF;omega)]
 . rw[SB,e]
   clear e st
   by_cases h1:i<spl N
   . rw[if_pos h1,SA]
     generalize spl N=z at *
     simp(disch:=((fail_if_success (intro _));omega)) only[go_sem,simprocAttr,↓reduceIte,↓Nat.reduceEqDiff,xx,hL,hT,n0]
     rw[Nat.add_comm 1 t.length];rfl
   . rw[if_neg h1,SA]
     generalize spl N=z at *
     obtain⟨y1,e1⟩:∃y,y=N-z:=⟨_,rfl⟩
     obtain⟨y2,e2⟩:∃y,y=i-z:=⟨_,rfl⟩
     have e3:(N:Int)-(z:Int)=(y1:Int):=by omega
     have e4:(i:Int)-(z:Int)=(y2:Int):=by omega
     rw[<-e1,<-e2]
     simp(disch:=((fail_if_success (intro _));omega)) only[go_sem,simprocAttr,↓reduceIte,↓Nat.reduceEqDiff,xx,hL,hT,n0,e3,e4]
     rw[Nat.add_comm 1 t.length];rfl
 . rw[SB];simp(disch:=((fail_if_success (intro _));omega)) only[go_sem,simprocAttr,↓reduceIte,↓Nat.reduceEqDiff,xx,hL]
 . exact st
 . rw[SB,e]
   generalize spl N=z at *
   simp(disch:=((fail_if_success (intro _));omega)) only[go_sem,simprocAttr,↓reduceIte,↓Nat.reduceEqDiff,xx,hL]
theorem loopA {k:Nat}{d:Dg}{f:Bool}{sh:Sh}{p:List Dg}{i N:Nat}(hN:1<=N)(hN2:N<=1099511627776)(hi:i<N)(hd:dep i N<=1000) :
  ∃i',∀st,clean [.slot 1,.slot 2,.slot 3,.slot 4,.own 9 5009 .sc,.key 4] st=some (SA d f sh p (i,N,[])) ->
   iter (evC gl (call gl tab k) L27) [.slot 1,.slot 2,.slot 3,.slot 4,.own 9 5009 .sc,.key 4] LF st=evC gl (call gl tab k) L27 (SA d f sh p (i',1,tn i N)):=by
 obtain⟨⟨i',N',t'⟩,⟨h1,h2,h3,h4⟩,hgo,h5⟩:=iter_meas (f:=evC gl (call gl tab k) L27) (ks:=[.slot 1,.slot 2,.slot 3,.slot 4,.own 9 5009 .sc,.key 4]) (SA d f sh p)
  (fun a=>1<=a.2.1/\a.1<a.2.1/\a.2.1<=1099511627776/\tn a.1 a.2.1++a.2.2=tn i N) (fun a=>a.2.1) nx (fun a=>decide (2<=a.2.1)) (a0:=(i,N,[])) (by show N<LF;unfold LF;omega) ⟨hN,hi,hN2,by simp⟩
  (fun a ha hg=>by
    obtain⟨x,M,t⟩:=a
    obtain⟨a1,a2,a3,a4⟩:=ha
    simp only[decide_eq_true_eq]at hg a1 a2 a3 a4
    have hk:=spl_lt hg
    have hp:=spl_pos M
    have ht:t.length<=1000:=by
     have:=congrArg List.length a4
     rw[List.length_append,tn_len _ i N (Nat.le_refl _)]at this;omega
    refine⟨stepA hg a3 a2 ht,?_,?_⟩
    . by_cases hx:x<spl M
      . simp only[nx,if_pos hx]
        rw[tn_lo hg hx,List.append_assoc]at a4
        exact⟨by omega,hx,by omega,a4⟩
      . simp only[nx,if_neg hx]
        rw[tn_hi hg hx,List.append_assoc]at a4
        exact⟨by omega,by omega,by omega,a4⟩
    . by_cases hx:x<spl M
      . simp only[nx,if_pos hx];exact hk
      . simp only[nx,if_neg hx];omega)
  (fun a ha hg=>by
    obtain⟨x,M,t⟩:=a
    have hg:M<2:=by simpa using hg
    have hL:=bL_length t
    rw[SA]
    simp(disch:=((fail_if_success (intro _));omega)) only[go_sem,simprocAttr,↓reduceIte,↓Nat.reduceEqDiff,xx,L27,m27,hL])
 have h6:N'<2:=by simpa using hgo
 obtain rfl:N'=1:=by simp only at h1;omega
 simp only at h4
 rw[tn_one (by omega),List.nil_append]at h4
 subst h4
 exact⟨i',h5⟩
def uj (T:List Bool)(p:List Dg)(d:Dg)(j:Nat):List (Dg×Dg)×Dg:=ups (T.take j) (p.take j) d
theorem uj_zero (T:List Bool)(p:List Dg)(d:Dg):uj T p d 0=([],d):=by rw[uj,List.take_zero];rfl
def tA (T:List Bool)(j:Nat):Bool:=T.getD j false
theorem bL_at {T:List Bool}{j:Nat}(h:j<T.length):(bL T)[j]? =some (.bool (tA T j)):=by simp[bL,tA,h]
theorem uj_succ {T:List Bool}{p:List Dg}(d:Dg){j:Nat}(h:j<T.length)(hp:p.length=T.length) :
  uj T p d (j+1)=((uj T p d j).1++[prT (tA T j) (uj T p d j).2 (dgA p j)],nd (prT (tA T j) (uj T p d j).2 (dgA p j)).1 (prT (tA T j) (uj T p d j).2 (dgA p j)).2):=by
 have hj:j<p.length:=by omega
 rw[uj,List.take_succ_eq_append_getElem h,List.take_succ_eq_append_getElem hj,ups_snoc _ _ _ _ _ (by rw[List.length_take,List.length_take];omega)]
 have e1:T[j]=tA T j:=by simp[tA,h]
 have e2:p[j]=dgA p j:=by simp[dgA,hj]
 rw[e1,e2];rfl
theorem uj_all (T:List Bool)(p:List Dg)(d:Dg)(hp:p.length=T.length):uj T p d T.length=ups T p d:=by
 rw[uj,List.take_length]
 conv=>lhs;rw[<-hp,List.take_length]
theorem uj_len {T:List Bool}{p:List Dg}{d:Dg}(hd:d.length=16)(hp:p.length=T.length):∀j,j<=T.length->(uj T p d j).1.length=j/\(uj T p d j).2.length=16
 | 0,h=>by rw[uj_zero];exact⟨rfl,hd⟩
 | j+1,h=>by
   rw[uj_succ d (by omega) hp]
   exact⟨by rw[List.length_append,(uj_len hd hp j (by omega)).1];rfl,nd_len _ _⟩
def SC (f:Bool)(sh:Sh)(T:List Bool)(p:List Dg)(u:List (Dg×Dg)×Dg)(j:Nat):St :=
 ⟨[.set 14 (i64 j),.set 13 (.ptr 13 []),.set 12 (.sl 5012 [] 0 j),.set 9 (.sl 5009 [] 0 T.length),.set 3 (.lst f sh (dgL p))],[(13,.fix (.ar 16 .sc) (bAV u.2)),(5012,.grow sPr (prL u.1)),(5009,.grow .sc (bL T))]⟩
theorem prL_noImms :∀(l:List (Dg×Dg)),noImms (prL l)=true
 | []=>rfl
 | x::l=>by
   rw[prL,List.map_cons,noImms,<-prL,prL_noImms l,noImm,noImms,noImms,noImms,noImm,noImm,H.noImms_bytesAV,H.noImms_bytesAV];rfl
theorem prL_app (l:List (Dg×Dg))(x:Dg×Dg):prL (l++[x])=prL l++[.agg [bAV x.1,bAV x.2]]:=by simp[prL]
section
variable [Nonempty (GlK gl)]
theorem stepC {k:Nat}(hk:7<=k){f:Bool}{T:List Bool}{p:List Dg}{d:Dg}(hd:d.length=16)(ha:All16 p)(hp:p.length=T.length)(hT:T.length<=1000)(j:Nat)(hj:j<T.length) :
  contK [.slot 3,.own 9 5009 .sc,.own 12 5012 (.ar 2 (.ar 16 .sc)),.slot 13,.slot 14,.key 13] (evC gl (call gl tab k) L27c (SC f sB T p (uj T p d j) j))=some (SC f sB T p (uj T p d (j+1)) (j+1)):=by
 have hb:=bL_at hj
 have hx:=dgL_at (show j<p.length by omega)
 have q1:=ha.at (show j<p.length by omega)
 have q2:=H.bytes_all (dgA p j)
 have hL:=dgL_length p
 have hB:=bL_length T
 obtain⟨l1,l2⟩:=uj_len (d:=d) hd hp j (by omega)
 have q3:=H.bytes_all (uj T p d j).2
 rw[uj_succ d hj hp]
 have hP:=prL_length (uj T p d j).1
 have hA:List.take (uj T p d j).1.length (prL (uj T p d j).1)=prL (uj T p d j).1:=List.take_of_length_le (by rw[hP];exact Nat.le_refl _)
 have n1:=prL_noImms (uj T p d j).1
 have n2:=H.noImms_bytesAV (uj T p d j).2
 have n3:=H.noImms_bytesAV (dgA p j)
 have b1:=b16t l2
 have b2:=b16t q1
 rw[l1]at hP hA
 have hlim:j+1<=LIM:=by unfold LIM;omega
 rw[SC,SC,prL_app]
 cases hbj:tA T j with
 | false =>
   simp only[prT,if_neg Bool.false_ne_true]
   have c:=@node_at gl k _ (by omega) _ _ l2 q1
   have c2:=nd_len (uj T p d j).2 (dgA p j)
   have c3:=H.bytes_all (nd (uj T p d j).2 (dgA p j))
   have c4:=H.noImms_bytesAV (nd (uj T p d j).2 (dgA p j))
   rw[hbj]at hb
   generalize nd (uj T p d j).2 (dgA p j)=q at *
   generalize (uj T p d j).2=e at *
   generalize dgA p j=x at *
   generalize (uj T p d j).1=r at *
   simp(implicitDefEqProofs:=false) (disch:=((fail_if_success (intro _));omega)) only[go_sem,simprocAttr,↓reduceIte,↓Nat.reduceEqDiff,xx,L27c,m27,↓out16_eq,H.out16_len,H.out16_all,H.out16_pl,hb,hx,q1,q2,q3,hL,hB,l1,l2,hP,hA,n1,n2,n3,b1,b2,c,c2,c3,c4,sB_size]
 | true =>
   simp only[prT,if_pos]
   have c:=@node_at gl k _ (by omega) _ _ q1 l2
   have c2:=nd_len (dgA p j) (uj T p d j).2
   have c3:=H.bytes_all (nd (dgA p j) (uj T p d j).2)
   have c4:=H.noImms_bytesAV (nd (dgA p j) (uj T p d j).2)
   rw[hbj]at hb
   generalize nd (dgA p j) (uj T p d j).2=q at *
   generalize (uj T p d j).2=e at *
   generalize dgA p j=x at *
   generalize (uj T p d j).1=r at *
   simp(implicitDefEqProofs:=false) (disch:=((fail_if_success (intro _));omega)) only[go_sem,simprocAttr,↓reduceIte,↓Nat.reduceEqDiff,xx,L27c,m27,↓out16_eq,H.out16_len,H.out16_all,H.out16_pl,hb,hx,q1,q2,q3,hL,hB,l1,l2,hP,hA,n1,n2,n3,b1,b2,c,c2,c3,c4,sB_size]
theorem steps_at (h:8<=n){f:Bool}{i N:Nat}{p:List Dg}{d:Dg}(hN:1<=N)(hN2:N<=1099511627776)(hi:i<N)(hd:d.length=16)(ha:All16 p)(hp:p.length=dep i N)(hl:p.length<=1000) :
  call gl tab n 27 [bAV d,i64 i,i64 N,.lst f sB (dgL p)] []=some (.lst false sPr (prL (stp nd z16 d i N p)),[],[]):=by
 obtain⟨k,rfl⟩:=Nat.exists_eq_add_of_le' h
 have q0:=H.bytes_all d
 have hL:=dgL_length p
 have hTl:=tn_len _ i N (Nat.le_refl _)
 obtain⟨i',la⟩:=@loopA gl (k+7) d f sB p i N hN hN2 hi (by omega)
 have sc:=fun j hj=>@stepC gl _ (k+7) (by omega) f (tn i N) p d hd ha (by omega) (by omega) j hj
 have e1:=uj_all (tn i N) p d (by omega)
 rw[ups_stp _ i N p d (Nat.le_refl _) hp]at e1
 have e2:=uj_zero (tn i N) p d
 have e3:=stp_len (node:=nd) z16 d _ i N p (Nat.le_refl _)
 have hP:=prL_length (stp nd z16 d i N p)
 have hA:List.take (stp nd z16 d i N p).length (prL (stp nd z16 d i N p))=prL (stp nd z16 d i N p):=List.take_of_length_le (by rw[hP];exact Nat.le_refl _)
 rw[e3]at hP hA
 rw[<-hTl]at hP hA
 have hB:=bL_length (tn i N)
 have b1:=b16t hd
 simp only[L27,L27c,m27,↓out16_eq]at la sc
 rw[call_go (fd:=fd27) rfl]
 simp(implicitDefEqProofs:=false) (disch:=((fail_if_success (intro _));omega)) only[go_sem,simprocAttr,↓reduceIte,↓Nat.reduceEqDiff,xx,fd27,m27,↓out16_eq,H.out16_len,H.out16_all,H.out16_pl,hd,q0]
 rw[la]
 . rw[SA]
   clear la
   generalize tn i N=T at *
   simp(implicitDefEqProofs:=false) (disch:=((fail_if_success (intro _));omega)) only[go_sem,simprocAttr,↓reduceIte,↓Nat.reduceEqDiff,xx,↓out16_eq,H.out16_len,H.out16_all,H.out16_pl,hB,hd,q0,b1]
   rw[iter_to (fun j=>SC f sB T p (uj T p d j) j) T.length (by unfold LF;omega)]
   . rw[SC,e1]
     generalize stp nd z16 d i N p=S at *
     simp(implicitDefEqProofs:=false) (disch:=((fail_if_success (intro _));omega)) only[go_sem,simprocAttr,↓reduceIte,↓Nat.reduceEqDiff,xx,hB,hL,hP,hA]
   . rw[SC,e2];simp(implicitDefEqProofs:=false) (disch:=((fail_if_success (intro _));omega)) only[go_sem,simprocAttr,↓reduceIte,↓Nat.reduceEqDiff,xx,hB,hd,q0];rfl
   . exact sc
   . rw[SC];simp(implicitDefEqProofs:=false) (disch:=((fail_if_success (intro _));omega)) only[go_sem,simprocAttr,↓reduceIte,↓Nat.reduceEqDiff,xx,hB,hL]
 . rw[SA];simp(implicitDefEqProofs:=false) (disch:=((fail_if_success (intro _));omega)) only[go_sem,simprocAttr,↓reduceIte,↓Nat.reduceEqDiff,xx,hd,q0];rfl
end
end Go.Proofs.S03
