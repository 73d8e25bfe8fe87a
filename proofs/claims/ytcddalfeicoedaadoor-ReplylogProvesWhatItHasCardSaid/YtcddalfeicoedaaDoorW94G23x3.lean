/-
  Chapter 44: whether a ledger is valid, in the program. No condition.
-/
import Derived.Test.YtcddalfeicoedaaDoorW94G22x3
import Derived.Test.YtcddalfeicoedaaDoorW94G15x3
set_option linter.all false
open Nat renaming le_refl->wA,exists_eq_add_of_le'->wB
namespace Go.Proofs.S94.L
open Go Go.Ev Go.Proofs Go.Proofs.S94
open Go.Proofs.S94.H (GlK GlR)
open Go.Proofs.S94.M (Dg All16 Sd sB pkAV P8)
variable {gl :Gl} {n:Nat}
section
variable {s z:Int} {f f2 f3:Bool} {sh sh2 sh3:Sh} {l:List Rv} {t:List Dg} {hs:List Hd}
theorem zza [Nonempty (GlK gl)][Nonempty (M.GlB gl)](h:830<=n)(h2:Sr l sh)(hl:l.length<=800)(ok:∀x∈l,RvOk gl x)(hz:-9223372036854775808<=z/\z<=9223372036854775807)(ht:t.length<=60000)(ha:All16 t)(h4:Sd t sh2 sB)
  (h3:hs=[]\/sh3=sHd) (hhl:hs.length<=60000) (hh:∀y∈hs,HdOk y) :
  ∃b:Bool,call gl tab n 15 [ldAV s f sh l z f2 sh2 t f3 sh3 (hds hs)] []=some (.bool b,[],[])/\(b=true↔VL s l z t hs):=by
 obtain⟨d,rfl⟩:=wB h
 have c0:=@site_at gl (d+829) (by omega) s
 have hL:=zbl l
 have hLh:=zb2 hs
 by_cases g0:0<=s/\s<64
 rotate_left
 . refine⟨false,?_,by simp only[VL,g0,false_and,Bool.false_eq_true]⟩
   rw[decide_eq_false g0]at c0
   rw[zae (fd:=fd15) rfl]
   simp(disch:=apply zq;omega) only[go_sem,simprocAttr,↓Nat.reduceEqDiff,xx,fd15,m15,c0]
 rw[decide_eq_true g0]at c0
 have z0:=M.pv8_z (fs l)
 rcases zce (fun i=>RV s l i) l.length with g1|⟨q,hq,hb',he⟩
 rotate_left
 . refine⟨false,?_,by
    constructor
    . intro h;cases h
    . intro h;exact absurd (h.2.1 q hq) he⟩
   obtain⟨st,hs1,hg⟩:=zds (@qhh gl s z f f2 f3 sh sh2 sh3 l t (d+829) hl h2 ok (hds hs) q hq he)
   have hs2:=fun i (hi:i<q)=>z56 (gl:=gl) (s:=s) (z:=z) (f:=f) (f2:=f2) (f3:=f3) (sh2:=sh2) (sh3:=sh3) (t:=t) (d:=d+829) (by omega) hl h2 ok (U:=hds hs) i (by omega) (hb' i hi)
   simp only[L15',m15,↓out16_eq]at hs1 hs2
   rw[zae (fd:=fd15) rfl]
   simp(disch:=apply zq;omega) only[go_sem,simprocAttr,↓Nat.reduceEqDiff,xx,fd15,m15,↓out16_eq,H.oo,c0,hL]
   rw[zao (S15' f sh l (ldAV s f sh l z f2 sh2 t f3 sh3 (hds hs))) q (by unfold LF;omega),hs1]
   . simp(disch:=apply zq;omega) only[go_sem,simprocAttr,↓Nat.reduceEqDiff,xx,hg]
   . rw[S15',z0];simp(disch:=apply zq;omega) only[go_sem,simprocAttr,↓Nat.reduceEqDiff,xx,hL]
   . exact hs2
   . rw[hs1];rfl
 have st1:=fun i hi=>z56 (gl:=gl) (s:=s) (z:=z) (f:=f) (f2:=f2) (f3:=f3) (sh2:=sh2) (sh3:=sh3) (t:=t) (d:=d+829) (by omega) hl h2 ok (U:=hds hs) i hi (g1 i hi)
 have c1:=@zih gl (d+829) (by omega) s z f f2 f3 sh sh2 sh3 l t (hds hs) h2 (by omega) ok l.length (wA _)
 rw[List.take_of_length_le (wA _)]at c1
 obtain⟨f5,s5,e5,k5⟩:=M.pv8_eq (fs l) l.length
 have c3:=@z96 gl (d+829) (by omega) f5 f2 s5 sh2 (P8 (fs l) l.length) t (M.P8_all _ _ (by rw[zas];exact wA _) (zgc ok)) ha k5 h4 (by have:=M.P8_le (fs l) (by rw[zas];omega) (k:=l.length) (by rw[zas];exact wA _);omega) (by omega)
 have st2:=fun k hk hv=>@z7l gl s z f f2 f3 sh sh2 sh3 l t hs _ (d+829) (by omega) hl ok h3 hhl hh k hk hv
 have bd2:=fun k hk hv=>@qex gl s z f f2 f3 sh sh2 sh3 l t hs _ (d+829) (by omega) hl ok h3 hhl hh k hk hv
 simp only[L15',m15,↓out16_eq]at st1
 have eE:S15' f sh l (ldAV s f sh l z f2 sh2 t f3 sh3 (hds hs)) l.length=⟨[.set 23 (i64 l.length),.set 22 (i64 l.length),.set 21 (.lst f sh (rvs l)),.set 3 (.ptr 3 []),.set 1 (.ptr 1 [])],[(3,.fix (.st [.sc,.sc]) (pkAV l.length f5 s5 (P8 (fs l) l.length))),(1,.fix sLd (ldAV s f sh l z f2 sh2 t f3 sh3 (hds hs)))]⟩:=by rw[S15',e5]
 by_cases g2:z=l.length
 rotate_left
 . refine⟨false,?_,by
    constructor
    . intro h;cases h
    . intro h;exact absurd h.2.2.1.1 g2⟩
   have en:((l.length:Int) != z)=true:=by rw[bne_iff_ne];exact fun e=>g2 e.symm
   rw[zae (fd:=fd15) rfl]
   simp(disch:=apply zq;omega) only[go_sem,simprocAttr,↓Nat.reduceEqDiff,xx,fd15,m15,↓out16_eq,H.oo,c0,hL]
   rw[zao (S15' f sh l (ldAV s f sh l z f2 sh2 t f3 sh3 (hds hs))) l.length (by unfold LF;omega)]
   . rw[eE]
     generalize P8 (fs l) l.length=p at *
     simp(disch:=apply zq;omega) only[go_sem,simprocAttr,↓Nat.reduceEqDiff,xx,hL,c1,c3,en]
   . rw[S15',z0];simp(disch:=apply zq;omega) only[go_sem,simprocAttr,↓Nat.reduceEqDiff,xx,hL]
   . exact st1
   . rw[S15'];simp(disch:=apply zq;omega) only[go_sem,simprocAttr,↓Nat.reduceEqDiff,xx,hL]
 have en:((l.length:Int) != z)=false:=by rw[g2];exact bne_self_eq_false _
 by_cases g3:P8 (fs l) l.length=t
 rotate_left
 . refine⟨false,?_,by
    constructor
    . intro h;cases h
    . intro h;exact absurd h.2.2.1.2.symm g3⟩
   rw[decide_eq_false g3]at c3
   clear g3
   rw[zae (fd:=fd15) rfl]
   simp(disch:=apply zq;omega) only[go_sem,simprocAttr,↓Nat.reduceEqDiff,xx,fd15,m15,↓out16_eq,H.oo,c0,hL]
   rw[zao (S15' f sh l (ldAV s f sh l z f2 sh2 t f3 sh3 (hds hs))) l.length (by unfold LF;omega)]
   . rw[eE]
     generalize P8 (fs l) l.length=p at *
     simp(disch:=apply zq;omega) only[go_sem,simprocAttr,↓Nat.reduceEqDiff,xx,hL,c1,c3,en]
   . rw[S15',z0];simp(disch:=apply zq;omega) only[go_sem,simprocAttr,↓Nat.reduceEqDiff,xx,hL]
   . exact st1
   . rw[S15'];simp(disch:=apply zq;omega) only[go_sem,simprocAttr,↓Nat.reduceEqDiff,xx,hL]
 rw[decide_eq_true g3]at c3
 rcases zce (fun i=>HV s l hs i) hs.length with g4|⟨q,hq,hb',he⟩
 . refine⟨true,?_,by
    constructor
    . intro _;exact⟨g0,g1,⟨g2,g3.symm⟩,g4⟩
    . intro _;rfl⟩
   have st2:=fun k hk=>st2 k hk (g4 k hk)
   simp only[zka,m15,↓out16_eq]at st2
   clear g3 bd2
   rw[zae (fd:=fd15) rfl]
   simp(disch:=apply zq;omega) only[go_sem,simprocAttr,↓Nat.reduceEqDiff,xx,fd15,m15,↓out16_eq,H.oo,c0,hL]
   rw[zao (S15' f sh l (ldAV s f sh l z f2 sh2 t f3 sh3 (hds hs))) l.length (by unfold LF;omega)]
   . rw[eE]
     generalize P8 (fs l) l.length=p at *
     simp(disch:=apply zq;omega) only[go_sem,simprocAttr,↓Nat.reduceEqDiff,xx,↓out16_eq,H.oo,hL,hLh,c1,c3,en]
     rw[zao (zj9 f3 sh3 hs (ldAV s f sh l z f2 sh2 t f3 sh3 (hds hs)) (fs l)) hs.length (by unfold LF;omega)]
     . rw[zj9];simp(disch:=apply zq;omega) only[go_sem,simprocAttr,↓Nat.reduceEqDiff,xx,hLh]
     . rw[zj9];simp(disch:=apply zq;omega) only[go_sem,simprocAttr,↓Nat.reduceEqDiff,xx,hLh]
     . exact st2
     . rw[zj9];simp(disch:=apply zq;omega) only[go_sem,simprocAttr,↓Nat.reduceEqDiff,xx,hLh]
   . rw[S15',z0];simp(disch:=apply zq;omega) only[go_sem,simprocAttr,↓Nat.reduceEqDiff,xx,hL]
   . exact st1
   . rw[S15'];simp(disch:=apply zq;omega) only[go_sem,simprocAttr,↓Nat.reduceEqDiff,xx,hL]
 . refine⟨false,?_,by
    constructor
    . intro h;cases h
    . intro h;exact absurd (h.2.2.2 q hq) he⟩
   obtain⟨st,hs1,hg⟩:=zds (bd2 q hq he)
   have st2:=fun k (hk:k<q)=>st2 k (by omega) (hb' k hk)
   simp only[zka,m15,↓out16_eq]at st2 hs1
   clear g3 bd2
   rw[zae (fd:=fd15) rfl]
   simp(disch:=apply zq;omega) only[go_sem,simprocAttr,↓Nat.reduceEqDiff,xx,fd15,m15,↓out16_eq,H.oo,c0,hL]
   rw[zao (S15' f sh l (ldAV s f sh l z f2 sh2 t f3 sh3 (hds hs))) l.length (by unfold LF;omega)]
   . rw[eE]
     generalize P8 (fs l) l.length=p at *
     simp(disch:=apply zq;omega) only[go_sem,simprocAttr,↓Nat.reduceEqDiff,xx,↓out16_eq,H.oo,hL,hLh,c1,c3,en]
     rw[zao (zj9 f3 sh3 hs (ldAV s f sh l z f2 sh2 t f3 sh3 (hds hs)) (fs l)) q (by unfold LF;omega),hs1]
     . simp(disch:=apply zq;omega) only[go_sem,simprocAttr,↓Nat.reduceEqDiff,xx,hg]
     . rw[zj9];simp(disch:=apply zq;omega) only[go_sem,simprocAttr,↓Nat.reduceEqDiff,xx,hLh]
     . exact st2
     . rw[hs1];rfl
   . rw[S15',z0];simp(disch:=apply zq;omega) only[go_sem,simprocAttr,↓Nat.reduceEqDiff,xx,hL]
   . exact st1
   . rw[S15'];simp(disch:=apply zq;omega) only[go_sem,simprocAttr,↓Nat.reduceEqDiff,xx,hL]
end
end Go.Proofs.S94.L
namespace Go.Proofs.S94.M
open Go Go.Ev Go.Proofs Go.Mk
open Go.Proofs.S94.H (GlK GlR)
variable {gl :Gl} {n:Nat}
def clc (old:Dg)(m N:Nat)(mark:Bool)(p:List Dg):Dg×Dg:=clC nd z16 old m N mark p
theorem z18 {old:Dg}{N:Nat}{mark:Bool}{p:List Dg}:clc old N N mark p=if mark then(old,old)else(p.getLastD z16,p.getLastD z16):=z2a
theorem z6q {old:Dg}{m N:Nat}{mark:Bool}{p:List Dg}(h:2<=N)(hn:m≠N)(hm:m<=spl N):clc old m N mark p=((clc old m (spl N) mark p.dropLast).1,nd (clc old m (spl N) mark p.dropLast).2 (p.getLastD z16)):=z6s h hn hm
theorem z6r {old:Dg}{m N:Nat}{mark:Bool}{p:List Dg}(h:2<=N)(hn:m≠N)(hm:¬m<=spl N):clc old m N mark p=(nd (p.getLastD z16) (clc old (m-spl N) (N-spl N) false p.dropLast).1,nd (p.getLastD z16) (clc old (m-spl N) (N-spl N) false p.dropLast).2):=z6t h hn hm
theorem zpw {old:Dg}(h:old.length=16):∀(c:Nat) {m N:Nat} {mark:Bool} {p:List Dg},N<=c->1<=m->m<=N->All16 p->(clc old m N mark p).1.length=16/\(clc old m N mark p).2.length=16
 | 0,m,N,mark,p,hc,h1,hm,ha=>by omega
 | c+1,m,N,mark,p,hc,h1,hm,ha=>by
   by_cases he:m=N
   . subst he
     rw[z18]
     cases mark with
     | true=>exact⟨h,h⟩
     | false=>exact⟨zc5 ha,zc5 ha⟩
   . have h2:2<=N:=by omega
     have hk:=zcu h2
     have hp:=zb6 N
     by_cases hlo:m<=spl N
     . rw[z6q h2 he hlo]
       exact⟨(@zpw old h c m (spl N) mark p.dropLast (by omega) h1 hlo ha.dropLast).1,zd9 _ _⟩
     . rw[z6r h2 he hlo]
       exact⟨zd9 _ _,zd9 _ _⟩
abbrev CC (old:Dg)(f:Bool)(sh:Sh)(p:List Dg)(s:Bool):Hp :=
 [(100000,.fix (.ar 16 .sc) (bAV old)),(100001,.fix .sc (.ptr 100002 [])),(100002,PS f sh p s),(100003,.fix .sc (.fn 60 [.ptr 100000 [],.ptr 100001 [],.ptr 100003 []]))]
theorem zz3 (h:1<=n){p:List Dg}(hl:p.length<=1000000)(ha:All16 p){f:Bool}{sh:Sh}{s:Bool}(hs:Sd p sh sB) :
  ∃f1,call gl tab n 58 [.ptr 100000 []] [(100000,PS f sh p s)]=some (bAV (p.getLastD z16),[(100000,PS f1 sh p.dropLast (shr p s 1))],[]):=by
 by_cases hp0:p=[]
 . subst hp0
   refine⟨f,?_⟩
   rw[show shr [] s 1=true by simp[shr]]
   exact zur (by omega)
 . obtain rfl:sh=sB:=by rcases hs with hs|hs;exact absurd hs hp0;exact hs
   refine⟨true,?_⟩
   rw[show shr p s 1=s from by rw[zg6 hp0,zfu]]
   exact zq3 (by omega) hp0 hl ha
theorem Sd.dropLast {p:List Dg}{sh:Sh}(hs:Sd p sh sB):Sd p.dropLast sh sB:=by
 rcases hs with hs|hs
 . exact Or.inl (by rw[hs];rfl)
 . exact Or.inr hs
theorem zt8 (p:List Dg)(s:Bool)(k:Nat):shr p.dropLast (shr p s 1) k=shr p s (k+1):=by
 by_cases hp0:p=[]
 . subst hp0;simp[shr]
 . rw[zg6 hp0 s k,zg6 hp0,zfu]
theorem znq (h:2<=n){old:Dg}(hf:old.length=16){m:Nat}{mark:Bool}{f:Bool}{sh:Sh}{p:List Dg}{s:Bool}(hl:p.length<=1000000)(ha:All16 p)(hs:Sd p sh sB) :
  ∃f',call gl tab n 60 [i64 m,i64 m,.bool mark,.ptr 100000 [],.ptr 100001 [],.ptr 100003 []] (CC old f sh p s)=some (.tup [bAV (clc old m m mark p).1,bAV (clc old m m mark p).2],CC old f' sh (lft p (depC m m mark)) (shr p s (depC m m mark)),[]):=by
 obtain⟨d,rfl⟩:=wB h
 have q2:=H.bytes_all old
 rw[z18,zvh]
 cases mark with
 | true =>
   refine⟨f,?_⟩
   simp only[if_pos,zkj,zfu]
   rw[zat (fd:=fd60) rfl]
   simp(disch:=apply zq;omega) only[go_sem,simprocAttr,↓Nat.reduceEqDiff,xx,fd60,m60,↓out16_eq,H.oo,hf,q2]
 | false =>
   obtain⟨f1,key⟩:=@zz3 gl (d+1) (by omega) p hl ha f sh s hs
   refine⟨f1,?_⟩
   have g1:=zc5 ha
   have g2:=H.bytes_all (p.getLastD z16)
   simp only[Bool.false_eq_true,if_false]
   rw[zo4,zkj]
   generalize p.getLastD z16=r at *
   rw[zat (fd:=fd60) rfl]
   simp(disch:=apply zq;omega) only[go_sem,simprocAttr,↓Nat.reduceEqDiff,xx,fd60,m60,↓out16_eq,H.oo,hf,q2,key,g1,g2]
section
variable [Nonempty (GlK gl)]
theorem z15 :∀(c:Nat) {n:Nat} {old:Dg} {m N:Nat} {mark:Bool} {f:Bool} {sh:Sh} {p:List Dg} {s:Bool},old.length=16->N<=2^c->1<=m->m<=N->c<=60->9+c<=n->All16 p->p.length<=1000000->Sd p sh sB ->
  ∃f',call gl tab n 60 [i64 m,i64 N,.bool mark,.ptr 100000 [],.ptr 100001 [],.ptr 100003 []] (CC old f sh p s)=some (.tup [bAV (clc old m N mark p).1,bAV (clc old m N mark p).2],CC old f' sh (lft p (depC m N mark)) (shr p s (depC m N mark)),[]):=by
 intro c
 induction c with
 | zero =>
   intro n old m N mark f sh p s hf hN h1 hm hc h ha hl hs
   obtain rfl:m=N:=by have:(2:Nat)^0=1:=rfl;omega
   exact znq (by omega) hf hl ha hs
 | succ c ih =>
   intro n old m N mark f sh p s hf hN h1 hm hc h ha hl hs
   by_cases he:m=N
   . subst he;exact znq (by omega) hf hl ha hs
   obtain⟨d,rfl⟩:∃d,n=d+1:=⟨n-1,by omega⟩
   have h2:2<=N:=by omega
   have hk:=zcu h2
   have hp:=zb6 N
   have hle:=z57 h2 hN
   have hge:=@zyh N
   have h60:2^(c+1)<=2^60:=Nat.pow_le_pow_right (by omega) (by omega)
   have hN60:N<=1152921504606846976:=by
     have:(2:Nat)^60=1152921504606846976:=by decide
     omega
   have k:=@zh6 gl d (by omega) N h2 (by omega)
   have q2:=H.bytes_all old
   obtain⟨f1,key⟩:=@zz3 gl d (by omega) p hl ha f sh s hs
   have e1:∀k,lft p.dropLast k=lft p (k+1):=fun k=>(zo4 p k).symm
   have g1:=zc5 ha
   have g2:=H.bytes_all (p.getLastD z16)
   by_cases hlo:m<=spl N
   . obtain⟨f2,a⟩:=@ih d old m (spl N) mark f1 sh p.dropLast (shr p s 1) hf hle h1 hlo (by omega) (by omega) ha.dropLast (by rw[List.length_dropLast];omega) hs.dropLast
     rw[e1,zt8,<-z1x h2 he hlo]at a
     obtain⟨u1,v1⟩:=@zpw old hf _ m (spl N) mark p.dropLast (wA _) h1 hlo ha.dropLast
     have u2:=H.bytes_all (clc old m (spl N) mark p.dropLast).1
     have v2:=H.bytes_all (clc old m (spl N) mark p.dropLast).2
     have e:=@zgn gl d _ (by omega) _ _ v1 g1
     have e3:=zd9 (clc old m (spl N) mark p.dropLast).2 (p.getLastD z16)
     have e4:=H.bytes_all (nd (clc old m (spl N) mark p.dropLast).2 (p.getLastD z16))
     rw[z6q h2 he hlo]
     refine⟨f2,?_⟩
     simp only
     generalize nd (clc old m (spl N) mark p.dropLast).2 (p.getLastD z16)=q at *
     generalize clc old m (spl N) mark p.dropLast=qa at *
     generalize p.getLastD z16=r at *
     generalize spl N=z at *
     rw[zat (fd:=fd60) rfl]
     simp(implicitDefEqProofs:=false) (disch:=apply zq;omega) only[go_sem,simprocAttr,↓Nat.reduceEqDiff,xx,fd60,m60,↓out16_eq,H.oo,k,key,a,e,e3,e4,g1,g2,q2,hf,u1,u2,v1,v2]
   . have ei:(m:Int)-(spl N:Int)=((m-spl N:Nat):Int):=by omega
     have eN:(N:Int)-(spl N:Int)=((N-spl N:Nat):Int):=by omega
     obtain⟨f2,a⟩:=@ih d old (m-spl N) (N-spl N) false f1 sh p.dropLast (shr p s 1) hf (by omega) (by omega) (by omega) (by omega) (by omega) ha.dropLast (by rw[List.length_dropLast];omega) hs.dropLast
     rw[e1,zt8,<-z1y (mark:=mark) h2 he hlo]at a
     obtain⟨u1,v1⟩:=@zpw old hf _ (m-spl N) (N-spl N) false p.dropLast (wA _) (by omega) (by omega) ha.dropLast
     have u2:=H.bytes_all (clc old (m-spl N) (N-spl N) false p.dropLast).1
     have v2:=H.bytes_all (clc old (m-spl N) (N-spl N) false p.dropLast).2
     have e:=@zgn gl d _ (by omega) _ _ g1 u1
     have e':=@zgn gl d _ (by omega) _ _ g1 v1
     have e3:=zd9 (p.getLastD z16) (clc old (m-spl N) (N-spl N) false p.dropLast).1
     have e4:=H.bytes_all (nd (p.getLastD z16) (clc old (m-spl N) (N-spl N) false p.dropLast).1)
     have e5:=zd9 (p.getLastD z16) (clc old (m-spl N) (N-spl N) false p.dropLast).2
     have e6:=H.bytes_all (nd (p.getLastD z16) (clc old (m-spl N) (N-spl N) false p.dropLast).2)
     rw[z6r h2 he hlo]
     refine⟨f2,?_⟩
     simp only
     generalize nd (p.getLastD z16) (clc old (m-spl N) (N-spl N) false p.dropLast).1=q at *
     generalize nd (p.getLastD z16) (clc old (m-spl N) (N-spl N) false p.dropLast).2=q' at *
     generalize clc old (m-spl N) (N-spl N) false p.dropLast=qa at *
     generalize p.getLastD z16=r at *
     generalize spl N=z at *
     rw[zat (fd:=fd60) rfl]
     simp(implicitDefEqProofs:=false) (disch:=apply zq;omega) only[go_sem,simprocAttr,↓Nat.reduceEqDiff,xx,fd60,m60,↓out16_eq,H.oo,k,key,a,e,e',e3,e4,e5,e6,g1,g2,q2,hf,u1,u2,v1,v2,ei,eN]
end
end Go.Proofs.S94.M
