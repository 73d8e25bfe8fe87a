/-
  Chapter 30: whether the deadlines hold. No condition.
-/
import Derived.Test.YtjenmopgcpnklaaDoorW30G20x5
set_option linter.unusedVariables false
set_option linter.unusedSimpArgs false
set_option linter.unusedSectionVars false
namespace Go.Proofs.S30.G
open Go Go.Ev Go.Proofs Go.Ck
open Go.Proofs.S30.H (GlK GlR)
variable {gl :Gl} {n:Nat}
abbrev sH :Sh:=.st [.sc,.sc,.st [.sc,.sc,.sc,.sc,.ar 16 .sc]]
abbrev sW :Sh:=.st [.st [.sc,.sc,.sc],.ar 3 sH,.sc,.sc,.sc,.sc]
def les (l:List Le):List AV:=l.map leAV
structure Fg where
 f:Bool
 sh:Sh
 g:Bool
 sk:Sh
 k:Bool
abbrev wAV (w:Wd)(p:Fg):AV:=.agg [gAV w.t w.m p.f p.sh w.l,.agg [hAV (w.h 0),hAV (w.h 1),hAV (w.h 2)],.lst p.g p.sk (les w.s),.lst p.k .sc (ints w.b),i64 w.T,.bool false]
def L29 :MC:=match m29 with| .seq _ (.seq (.seq _ (.block _ (.loop _ b))) _)=>b|_=>.skip
def L29b :MC:=match m29 with| .seq _ (.seq (.seq _ (.block _ (.loop _ (.seq _ (.seq (.block _ (.seq _ (.seq _ (.seq _ (.block _ (.loop _ b)))))) _))))) _)=>b|_=>.skip
def S29b (w:Wd)(p:Fg)(y:Nat)(i a:Nat):St:=⟨[.set 8 (i64 a),.set 5 (i64 i),.set 2 (.ptr 2 []),.set 1 (i64 y)],[(2,.fix sW (wAV w p))]⟩
theorem step29b {d:Nat}(hd:4<=d){w:Wd}{k:Nat}(h:WI w k)(hk:k<=60)(p:Fg){y:Nat}(hy:y<256){i:Nat}(hi:i<w.b.length)(a:Nat)(ha:a<3) :
  contK [.slot 1,.slot 2,.slot 5,.slot 8,.key 2] (evC gl (call gl tab d) L29b (S29b w p y i a))=some (S29b w p y i (a+1)):=by
 have o:=h.a a ha
 have hv:=h.hv ha
 have hb:=ints_at hi
 have hbl:=ints_length w.b
 have hT:=h.T
 have b0:=h.b i hi
 have bk:=h.k
 obtain⟨v,hm,v1,v2,v3⟩:=max_ex w.T (w.b.getD i 0)
 obtain⟨z,hz,z1,z2,z3⟩:=max_ex 0 (v-y)
 have key:¬(w.h a).h>i->(w.h a).le.til<=w.b.getD i 0:=fun hi2=>by
  rcases o.l with e|⟨e,e2⟩
  . omega
  . obtain⟨a',e',u,g1,g2,g3,g4,g5,g6⟩:=e.i
    have q1:(w.h a).le.til=u:=by rw[g1];rfl
    have q2:(w.h a).le.site=a':=by rw[g1];rfl
    have q3:a'=a:=by rw[q2,o.s]at e2;omega
    subst q3
    rw[q1];exact g6 i (by omega) hi
 have c:=@serve_at gl d (by omega) (w.h a) o.z z v
 have hS:¬(w.h a).h>i->¬MS (w.h a) z v:=fun hi2 q=>by
  have:=key hi2
  have:=q.2.2
  omega
 have l0:=(h.a 0 (by omega)).z
 have l1:=(h.a 1 (by omega)).z
 have l2:=(h.a 2 (by omega)).z
 have q0:=H.bytes_all (w.h 0).le.sgn
 have q1:=H.bytes_all (w.h 1).le.sgn
 have q2:=H.bytes_all (w.h 2).le.sgn
 have o16:=o.z
 rw[S29b,S29b]
 by_cases hi2:(w.h a).h>i
 . match a,ha with
   | 0,_=>simp(disch:=((fail_if_success (intro _));omega)) only[go_sem,simprocAttr,↓reduceIte,↓Nat.reduceEqDiff,xx,L29b,m29,↓out16_eq,H.out16_len,H.out16_all,H.out16_pl,hb,hbl,l0,l1,l2,q0,q1,q2]
   | 1,_=>simp(disch:=((fail_if_success (intro _));omega)) only[go_sem,simprocAttr,↓reduceIte,↓Nat.reduceEqDiff,xx,L29b,m29,↓out16_eq,H.out16_len,H.out16_all,H.out16_pl,hb,hbl,l0,l1,l2,q0,q1,q2]
   | 2,_=>simp(disch:=((fail_if_success (intro _));omega)) only[go_sem,simprocAttr,↓reduceIte,↓Nat.reduceEqDiff,xx,L29b,m29,↓out16_eq,H.out16_len,H.out16_all,H.out16_pl,hb,hbl,l0,l1,l2,q0,q1,q2]
 . have key:=key hi2
   rw[decide_eq_false (hS hi2)]at c
   clear hS
   match a,ha with
   | 0,_=>simp(disch:=((fail_if_success (intro _));omega)) only[go_sem,simprocAttr,↓reduceIte,↓Nat.reduceEqDiff,xx,L29b,m29,↓out16_eq,H.out16_len,H.out16_all,H.out16_pl,hb,hbl,l0,l1,l2,q0,q1,q2,hm,hz,c]
   | 1,_=>simp(disch:=((fail_if_success (intro _));omega)) only[go_sem,simprocAttr,↓reduceIte,↓Nat.reduceEqDiff,xx,L29b,m29,↓out16_eq,H.out16_len,H.out16_all,H.out16_pl,hb,hbl,l0,l1,l2,q0,q1,q2,hm,hz,c]
   | 2,_=>simp(disch:=((fail_if_success (intro _));omega)) only[go_sem,simprocAttr,↓reduceIte,↓Nat.reduceEqDiff,xx,L29b,m29,↓out16_eq,H.out16_len,H.out16_all,H.out16_pl,hb,hbl,l0,l1,l2,q0,q1,q2,hm,hz,c]
def S29 (w:Wd)(p:Fg)(y:Nat)(i:Nat):St:=⟨[.set 5 (i64 i),.set 2 (.ptr 2 []),.set 1 (i64 y)],[(2,.fix sW (wAV w p))]⟩
theorem step29 {d:Nat}(hd:5<=d){w:Wd}{k:Nat}(h:WI w k)(hk:k<=60)(p:Fg)(hp:Mg w.l p.sh){y:Nat}(hy:y<256)(i:Nat)(hi:i<w.b.length) :
  contK [.slot 1,.slot 2,.slot 5,.key 2] (evC gl (call gl tab d) L29 (S29 w p y i))=some (S29 w p y (i+1)):=by
 have hn:=h.n
 have c:=dead_ok (gl:=gl) (n:=d) (t:=w.t) (m:=w.m) (e:=(i:Int)+1) (f:=p.f) (sh:=p.sh) (l:=w.l) (by omega) hp (by have:=h.c;omega) h.v (by omega) (by omega)
 have bk:=h.k
 have b0:=h.b i hi
 have hD:mxU (df ((i:Int)+1) w.l) (df ((i:Int)+1) w.l).length<=w.b.getD i 0:=mxU_le b0.1 (fun z hz=>by
  unfold df at hz
  rw[List.mem_filter]at hz
  have:=of_decide_eq_true hz.2
  exact(h.e z hz.1).b i (by omega) hi) _ (Nat.le_refl _)
 have hb:=ints_at hi
 have hbl:=ints_length w.b
 have st:=fun a ha=>@step29b gl d (by omega) w k h hk p y hy i hi a ha
 generalize mxU (df ((i:Int)+1) w.l) (df ((i:Int)+1) w.l).length=D at *
 simp only[L29b,m29,↓out16_eq]at st
 rw[S29]
 simp(disch:=((fail_if_success (intro _));omega)) only[go_sem,simprocAttr,↓reduceIte,↓Nat.reduceEqDiff,xx,L29,m29,↓out16_eq,c,hb,hbl,H.out16_len,H.out16_all,H.out16_pl]
 rw[iter_to (S29b w p y i) 3 (by unfold LF;omega)]
 . rw[S29b,S29];simp(disch:=((fail_if_success (intro _));omega)) only[go_sem,simprocAttr,↓reduceIte,↓Nat.reduceEqDiff,xx,hbl]
 . rw[S29b];simp(disch:=((fail_if_success (intro _));omega)) only[go_sem,simprocAttr,↓reduceIte,↓Nat.reduceEqDiff,xx,hbl]
 . exact st
 . rw[S29b];simp(disch:=((fail_if_success (intro _));omega)) only[go_sem,simprocAttr,↓reduceIte,↓Nat.reduceEqDiff,xx,hbl]
theorem safe_at (hn:6<=n){w:Wd}{k:Nat}(h:WI w k)(hk:k<=60)(p:Fg)(hp:Mg w.l p.sh){y:Nat}(hy:y<256) :
  call gl tab n 29 [wAV w p,i64 y] []=some (.bool true,[],[]):=by
 obtain⟨d,rfl⟩:=Nat.exists_eq_add_of_le' hn
 have bk:=h.k
 have hbl:=ints_length w.b
 have st:=fun i hi=>@step29 gl (d+5) (by omega) w k h hk p hp y hy i hi
 simp only[L29,m29,↓out16_eq]at st
 rw[call_go (fd:=fd29) rfl]
 have l0:=(h.a 0 (by omega)).z
 have l1:=(h.a 1 (by omega)).z
 have l2:=(h.a 2 (by omega)).z
 have q0:=H.bytes_all (w.h 0).le.sgn
 have q1:=H.bytes_all (w.h 1).le.sgn
 have q2:=H.bytes_all (w.h 2).le.sgn
 simp(disch:=((fail_if_success (intro _));omega)) only[go_sem,simprocAttr,↓reduceIte,↓Nat.reduceEqDiff,xx,fd29,m29,↓out16_eq,hbl,H.out16_len,H.out16_all,H.out16_pl,l0,l1,l2,q0,q1,q2]
 rw[iter_to (S29 w p y) w.b.length (by unfold LF;omega)]
 . rw[S29];simp(disch:=((fail_if_success (intro _));omega)) only[go_sem,simprocAttr,↓reduceIte,↓Nat.reduceEqDiff,xx,hbl]
 . rw[S29];simp(disch:=((fail_if_success (intro _));omega)) only[go_sem,simprocAttr,↓reduceIte,↓Nat.reduceEqDiff,xx,hbl]
 . exact st
 . rw[S29];simp(disch:=((fail_if_success (intro _));omega)) only[go_sem,simprocAttr,↓reduceIte,↓Nat.reduceEqDiff,xx,hbl]
end Go.Proofs.S30.G
namespace Go.Proofs.S30.G
open Go Go.Ev Go.Proofs Go.Ck
open Go.Proofs.S30.H (GlK GlR)
variable {gl :Gl} {n:Nat}
def zLe :Le:=⟨0,0,0,0,zB⟩
def hB (j:Nat)(a:Nat):Hd:=⟨if a<j then a else 0,0,zLe⟩
def wB (m:Int)(j:Nat):Wd:=⟨0,m,[],hB j,[],[],1000⟩
def wZ :Wd:=⟨0,0,[],hB 0,[],[],0⟩
abbrev fB :Fg:=⟨true,.sc,true,.sc,true⟩
def L27 :MC:=match m27 with| .seq _ (.seq _ (.seq _ (.seq (.seq _ (.block _ (.loop _ b))) _)))=>b|_=>.skip
def S27 (m:Int)(j:Nat):St:=⟨[.set 7 (i64 j),.set 6 (.ptr 6 []),.set 5 (i64 0),.set 2 (.ptr 2 [])],[(6,.fix sW (wAV (wB m j) fB)),(2,.fix sW (wAV wZ fB))]⟩
theorem wi_begin {m:Int}(h1:1<=m)(h2:m<=500):WI (wB m 3) 0:=by
 refine⟨vg_iff.2 ⟨⟨trivial,fun y hy=>by simp[wB]at hy⟩,by show(0:Int)<=0/\(0:Int)<=1099511627776;omega,h1,by show m<=3600000;omega⟩,h2,rfl,Nat.le_refl _,by show(1000:Int)<=1000/\(1000:Int)<=1000+255*((0:Nat):Int);omega,fun y hy=>by simp[wB]at hy,by show(0:Nat)<=3;omega,fun a ha=>⟨?_,?_,rfl,.inl rfl⟩,fun x hx=>by simp[wB]at hx,Nat.le_refl _,fun i hi=>by simp[wB]at hi⟩
 . show(if a<3 then(a:Int)else 0)=a;rw[if_pos ha]
 . show(0:Int)<=0/\(0:Int)<=0;omega
theorem av_put {j:Nat}(hj:j<3):[hAV (hB (j+1) 0),hAV (hB (j+1) 1),hAV (hB (j+1) 2)]=[hAV (hB j 0),hAV (hB j 1),hAV (hB j 2)].set j (hAV ⟨j,0,zLe⟩):=by
 match j,hj with
 | 0,_=>rfl
 | 1,_=>rfl
 | 2,_=>rfl
theorem step27 {d:Nat}{m:Int}(j:Nat)(hj:j<3) :
  contK [.slot 2,.slot 5,.slot 6,.slot 7,.key 2,.key 6] (evC gl (call gl tab d) L27 (S27 m j))=some (S27 m (j+1)):=by
 rw[S27,S27]
 match j,hj with
 | 0,_=>simp(disch:=((fail_if_success (intro _));omega)) only[go_sem,simprocAttr,↓reduceIte,↓Nat.reduceEqDiff,xx,L27,m27,↓out16_eq,H.out16_len,H.out16_all,H.out16_pl];rfl
 | 1,_=>simp(disch:=((fail_if_success (intro _));omega)) only[go_sem,simprocAttr,↓reduceIte,↓Nat.reduceEqDiff,xx,L27,m27,↓out16_eq,H.out16_len,H.out16_all,H.out16_pl];rfl
 | 2,_=>simp(disch:=((fail_if_success (intro _));omega)) only[go_sem,simprocAttr,↓reduceIte,↓Nat.reduceEqDiff,xx,L27,m27,↓out16_eq,H.out16_len,H.out16_all,H.out16_pl];rfl
theorem begin_at (hn:4<=n){m:Int}(h1:1<=m)(h2:m<=500) :
  call gl tab n 27 [i64 m] []=some (.tup [wAV (wB m 3) fB,.bool true],[],[]):=by
 obtain⟨d,rfl⟩:=Nat.exists_eq_add_of_le' hn
 have c:=@new_at gl (d+3) (by omega) m
 rw[if_pos ⟨h1,by omega⟩]at c
 have st:=fun j hj=>@step27 gl (d+3) m j hj
 simp only[L27,m27,↓out16_eq]at st
 rw[call_go (fd:=fd27) rfl]
 simp(disch:=((fail_if_success (intro _));omega)) only[go_sem,simprocAttr,↓reduceIte,↓Nat.reduceEqDiff,xx,fd27,m27,↓out16_eq,c,H.out16_len,H.out16_all,H.out16_pl]
 rw[iter_to (S27 m) 3 (by unfold LF;omega)]
 . rw[S27]
   have l:∀a,((wB m 3).h a).le.sgn.length=16:=fun a=>rfl
   have q:∀a,(bytesAV ((wB m 3).h a).le.sgn).all (fun x=>x.scalar)=true:=fun a=>H.bytes_all _
   simp(disch:=((fail_if_success (intro _));omega)) only[go_sem,simprocAttr,↓reduceIte,↓Nat.reduceEqDiff,xx,l,q,H.out16_len,H.out16_all,H.out16_pl]
 . rw[S27];simp(disch:=((fail_if_success (intro _));omega)) only[go_sem,simprocAttr,↓reduceIte,↓Nat.reduceEqDiff,xx];rfl
 . exact st
 . rw[S27];simp(disch:=((fail_if_success (intro _));omega)) only[go_sem,simprocAttr,↓reduceIte,↓Nat.reduceEqDiff,xx]
end Go.Proofs.S30.G
namespace Go.Proofs.S30.G
open Go Go.Ev Go.Proofs Go.Ck
open Go.Proofs.S30.H (GlK GlR)
variable {gl :Gl} {n:Nat}
theorem rem5 (y:Nat):binInt .rem .u8 (y:Int) 5=some (.int .u8 ((y%5:Nat):Int)):=by
 show(if(5:Int)=0 then none else some (AV.int .u8 (Int.tmod (y:Int) 5)))=_
 rw[if_neg (by decide)];rfl
theorem rem3 (y:Nat):binInt .rem .i64 (y:Int) 3=some (i64 ((y%3:Nat):Int)):=by
 show(if(3:Int)=0 then none else some (AV.int .i64 (Int.tmod (y:Int) 3)))=_
 rw[if_neg (by decide)];rfl
abbrev sLe :Sh:=.st [.sc,.sc,.sc,.sc,.ar 16 .sc]
structure FOk (w:Wd)(p:Fg):Prop where
 g:Mg w.l p.sh
 s:w.s=[]\/p.sk=sLe
theorem act_issue (hn:8<=n){w:Wd}{q:Nat}(h:WI w q)(hq:q<=59){p:Fg}(fp:FOk w p){kd si nn af ea la:Nat}(hk:kd<256)(hsi:si<256)(hnn:nn<256)(haf:af<256)(hea:ea<256)(hla:la<256)(h0:kd%5=0) :
  ∃w' p',call gl tab n 28 [wAV w p,.agg [.int .u8 kd,.int .u8 si,.int .u8 nn,.int .u8 af,.int .u8 ea,.int .u8 la]] []=some (wAV w' p',[],[])/\WI w' (q+1)/\FOk w' p':=by
 have hp:=fp.g
 obtain⟨d,rfl⟩:=Nat.exists_eq_add_of_le' hn
 have hw:=(h.tick (d:=(af:Int)) (by omega) (by omega))
 have hn:=hw.n
 have hbk:=h.k
 have hc:=h.c
 have hv:=h.v
 have hT:=h.T
 have hM:=hw.m
 have hv1:=hv.2
 have c1:=issue_ok (gl:=gl) (n:=d+7) (t:=w.t) (m:=w.m) (f:=p.f) (sh:=p.sh) (l:=w.l) (by omega) hp (by omega) hv (by have:w.t=w.b.length:=h.n;omega)
 have hw2:=hw.iss (by show w.b.length+1<=q+1;omega) (by omega)
 have c2:=dead_ok (gl:=gl) (n:=d+7) (t:=w.t+1) (m:=w.m) (e:=w.t+1) (f:=p.f) (sh:=p.sh) (l:=w.l) (by omega) hp (by omega) hw2.v (by omega) (Int.le_refl _)
 have e1:df (w.t+1) w.l=w.l:=by
  unfold df
  rw[List.filter_eq_self]
  intro y hy
  have:=(vg_iff.1 hv).1.2 y hy
  exact decide_eq_true (by omega)
 rw[e1]at c2
 have hD:=mxU_T hw
 have hD:mxU w.l w.l.length<=w.T+af+w.m:=hD
 have hD0:=mxU_nn (l:=w.l) w.l.length
 have r5:=rem5 kd
 rw[h0]at r5
 have r3:=rem3 si
 have hbl:=ints_length w.b
 have l0:=(h.a 0 (by omega)).z
 have l1:=(h.a 1 (by omega)).z
 have l2:=(h.a 2 (by omega)).z
 have q0:=H.bytes_all (w.h 0).le.sgn
 have q1:=H.bytes_all (w.h 1).le.sgn
 have q2:=H.bytes_all (w.h 2).le.sgn
 have hA:=ints_app w.b (mxU w.l w.l.length)
 refine⟨(w.tick af).iss,⟨p.f,p.sh,p.g,p.sk,false⟩,?_,hw2,⟨fp.g,fp.s⟩⟩
 show _=some (AV.agg [gAV (w.t+1) w.m p.f p.sh w.l,.agg [hAV (w.h 0),hAV (w.h 1),hAV (w.h 2)],.lst p.g p.sk (les w.s),.lst false .sc (ints (w.b++[mxU w.l w.l.length])),i64 (w.T+af),.bool false],[],[])
 rw[hA]
 generalize mxU w.l w.l.length=D at *
 rw[call_go (fd:=fd28) rfl]
 have hLim:w.b.length<=LIM:=by unfold LIM;omega
 have hLim2:w.b.length+1<=LIM:=by unfold LIM;omega
 have hLim0:0+1<=LIM:=by unfold LIM;omega
 have hLim1:0<=LIM:=by unfold LIM;omega
 by_cases hb0:w.b.length=0
 . have hb1:w.b=[]:=List.length_eq_zero_iff.1 hb0
   have hI:ints w.b=[]:=by rw[hb1];rfl
   simp(disch:=((fail_if_success (intro _));omega)) only[go_sem,simprocAttr,↓reduceIte,↓Nat.reduceEqDiff,xx,fd28,m28,↓out16_eq,H.out16_len,H.out16_all,H.out16_pl,l0,l1,l2,q0,q1,q2,hI,List.length_nil,hLim0,hLim1,c1,c2,r5,r3]
 . simp(disch:=((fail_if_success (intro _));omega)) only[go_sem,simprocAttr,↓reduceIte,↓Nat.reduceEqDiff,xx,fd28,m28,↓out16_eq,H.out16_len,H.out16_all,H.out16_pl,l0,l1,l2,q0,q1,q2,hbl,c1,c2,r5,r3,hLim,hLim2]
   rw[List.take_of_length_le (by rw[List.length_append,hbl];exact Nat.le_refl _)]
end Go.Proofs.S30.G
namespace Go.Proofs.S30.G
open Go Go.Ev Go.Proofs Go.Ck
open Go.Proofs.S30.H (GlK GlR)
variable {gl :Gl} {n:Nat}
theorem remP (x:Nat){y:Int}(hy:0<y):∃r:Int,binInt .rem .i64 (x:Int) y=some (i64 r)/\0<=r/\r<y:=by
 refine⟨Int.tmod x y,?_,?_,?_⟩
 . show(if y=0 then none else some (AV.int .i64 (Int.tmod (x:Int) y)))=_
   rw[if_neg (by omega)]
 . exact Int.tmod_nonneg _ (Int.natCast_nonneg x)
 . exact Int.tmod_lt_of_pos _ hy
end Go.Proofs.S30.G
namespace Go.Proofs.S30.G
open Go Go.Ev Go.Proofs Go.Ck
open Go.Proofs.S30.H (GlK GlR)
variable {gl :Gl} {n:Nat}
theorem act_hear (hn:8<=n){w:Wd}{q:Nat}(h:WI w q)(hq:q<=59){p:Fg}(fp:FOk w p){kd si nn af ea la:Nat}(hk:kd<256)(hsi:si<256)(hnn:nn<256)(haf:af<256)(hea:ea<256)(hla:la<256)(h0:kd%5=1) :
  ∃w' p',call gl tab n 28 [wAV w p,.agg [.int .u8 kd,.int .u8 si,.int .u8 nn,.int .u8 af,.int .u8 ea,.int .u8 la]] []=some (wAV w' p',[],[])/\WI w' (q+1)/\FOk w' p':=by
 have hp:=fp.g
 obtain⟨d,rfl⟩:=Nat.exists_eq_add_of_le' hn
 have hw:=(h.tick (d:=(af:Int)) (by omega) (by omega))
 have hn:=h.n
 have hbk:=h.k
 have hT:=h.T
 have hv:=h.v
 have hv1:=hv.2
 obtain⟨r,r1,r2,r3⟩:=remP nn (y:=w.t+1) (by omega)
 have r5:=rem5 kd
 rw[h0]at r5
 have r33:=rem3 si
 have ha:si%3<3:=Nat.mod_lt _ (by decide)
 generalize si%3=a at *
 have c1:=hear_ok (gl:=gl) (n:=d+7) (by omega) (w.h a) (h.a a ha).z (e:=r) (h.hv ha) r2 (by omega)
 refine⟨_,p,?_,hw.hear ha r2 (by show r<=w.t;omega),⟨fp.g,fp.s⟩⟩
 show _=some (AV.agg [gAV w.t w.m p.f p.sh w.l,.agg [hAV (setH w.h a ⟨(w.h a).s,mx (w.h a).h r,(w.h a).le⟩ 0),hAV (setH w.h a ⟨(w.h a).s,mx (w.h a).h r,(w.h a).le⟩ 1),hAV (setH w.h a ⟨(w.h a).s,mx (w.h a).h r,(w.h a).le⟩ 2)],.lst p.g p.sk (les w.s),.lst p.k .sc (ints w.b),i64 (w.T+af),.bool false],[],[])
 have l0:=(h.a 0 (by omega)).z
 have l1:=(h.a 1 (by omega)).z
 have l2:=(h.a 2 (by omega)).z
 have q0:=H.bytes_all (w.h 0).le.sgn
 have q1:=H.bytes_all (w.h 1).le.sgn
 have q2:=H.bytes_all (w.h 2).le.sgn
 rw[call_go (fd:=fd28) rfl]
 match a,ha with
 | 0,_=>simp(disch:=((fail_if_success (intro _));omega)) only[go_sem,simprocAttr,↓reduceIte,↓Nat.reduceEqDiff,xx,fd28,m28,↓out16_eq,H.out16_len,H.out16_all,H.out16_pl,l0,l1,l2,q0,q1,q2,c1,r5,r33,r1];rfl
 | 1,_=>simp(disch:=((fail_if_success (intro _));omega)) only[go_sem,simprocAttr,↓reduceIte,↓Nat.reduceEqDiff,xx,fd28,m28,↓out16_eq,H.out16_len,H.out16_all,H.out16_pl,l0,l1,l2,q0,q1,q2,c1,r5,r33,r1];rfl
 | 2,_=>simp(disch:=((fail_if_success (intro _));omega)) only[go_sem,simprocAttr,↓reduceIte,↓Nat.reduceEqDiff,xx,fd28,m28,↓out16_eq,H.out16_len,H.out16_all,H.out16_pl,l0,l1,l2,q0,q1,q2,c1,r5,r33,r1];rfl
end Go.Proofs.S30.G
