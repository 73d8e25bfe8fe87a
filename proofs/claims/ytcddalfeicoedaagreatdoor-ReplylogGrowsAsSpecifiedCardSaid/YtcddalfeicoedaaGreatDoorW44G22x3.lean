/-
  Chapter 44: what a valid ledger is, in the program. No condition.
-/
import Derived.Test.YtcddalfeicoedaaGreatDoorW44G19x3
set_option linter.all false
open Nat renaming le_refl->wA,exists_eq_add_of_le'->wB
open Int renaming toNat_natCast->wC
open List renaming getD_eq_getElem?_getD->wD,length_append->wE,length_take->wF,take_append_of_le_length->wG,getElem?_append_left->wH,map_take->wI
namespace Go.Proofs.S44.L
open Go Go.Ev Go.Proofs Go.Proofs.S44
open Go.Proofs.S44.H (strsAV zaa zai Sml GlK GlR)
open Go.Proofs.S44.M (lf zcv Dg dgL dgL_length All16 Sd sB pkAV grw P8 R8 pv8)
variable {gl :Gl} {n:Nat}
def S53' (f f':Bool)(k k':Sh)(a b:List Dg)(i:Nat):St:=⟨[.set 13 (i64 i),.set 12 (i64 a.length),.set 1 (.lst f' k' (dgL b)),.set 0 (.lst f k (dgL a))],[]⟩
theorem qcb (h:1<=n){f f':Bool}{k k':Sh}{a b:List Dg}(ha:All16 a)(hb:All16 b)(hk:Sd a k sB)(hk':Sd b k' sB)(hl:a.length<=60000)(hl2:b.length<=60000) :
  call gl tab n 53 [.lst f k (dgL a),.lst f' k' (dgL b)] []=some (.bool (decide (a=b)),[],[]):=by
 obtain⟨d,rfl⟩:=wB h
 have hL:=dgL_length a
 have hL2:=dgL_length b
 rw[zad (fd:=fd53) rfl]
 by_cases hlen:a.length=b.length
 . have st:∀i,i<a.length->M.dgA a i=M.dgA b i->zbd [.slot 0,.slot 1,.slot 12,.slot 13] (evC gl (call gl tab d) L53 (S53' f f' k k' a b i))=some (S53' f f' k k' a b (i+1)):=fun i hi he=>by
    obtain rfl:k=sB:=by rcases hk with h0|h0;subst h0;simp at hi;exact h0
    obtain rfl:k'=sB:=by rcases hk' with h0|h0;(rw[h0]at hlen;simp at hlen;rw[hlen]at hi;simp at hi);exact h0
    have hA:=M.dgL_at hi
    have hB:=M.dgL_at (show i<b.length by omega)
    have q1:=ha.at hi
    have q2:=H.bytes_all (M.dgA a i)
    have e:=eqB q1 q1
    rw[decide_eq_true rfl]at e
    rw[<-he]at hB
    generalize M.dgA a i=x at *
    rw[S53',S53']
    simp(disch:=apply zq;omega) only[go_sem,simprocAttr,↓Nat.reduceEqDiff,xx,L53,m53,hL,hL2,hA,hB,q1,q2,e,zab]
   have hf:∀i,i<a.length->¬M.dgA a i=M.dgA b i->out1 4 (evC gl (call gl tab d) L53 (S53' f f' k k' a b i))=some (.ret,.bool false):=fun i hi he=>by
    obtain rfl:k=sB:=by rcases hk with h0|h0;subst h0;simp at hi;exact h0
    obtain rfl:k'=sB:=by rcases hk' with h0|h0;(rw[h0]at hlen;simp at hlen;rw[hlen]at hi;simp at hi);exact h0
    have hA:=M.dgL_at hi
    have hB:=M.dgL_at (show i<b.length by omega)
    have q1:=ha.at hi
    have q2:=H.bytes_all (M.dgA a i)
    have q3:=hb.at (show i<b.length by omega)
    have q4:=H.bytes_all (M.dgA b i)
    have e:=eqB q1 q3
    rw[decide_eq_false he]at e
    generalize M.dgA a i=x at *
    generalize M.dgA b i=y at *
    rw[S53']
    simp(disch:=apply zq;omega) only[go_sem,simprocAttr,↓Nat.reduceEqDiff,xx,L53,m53,hL,hL2,hA,hB,q1,q2,q3,q4,e,zab]
   have hne:((a.length:Int) != (b.length:Int))=false:=by rw[hlen];exact bne_self_eq_false _
   rcases zbv (fun i=>M.dgA a i=M.dgA b i) a.length with hA|⟨q,hq,hb',he⟩
   . rw[decide_eq_true (M.dgs_eq hlen hA)]
     have hs2:=fun i hi=>st i hi (hA i hi)
     simp only[L53,m53]at hs2
     simp(disch:=apply zq;omega) only[go_sem,simprocAttr,↓Nat.reduceEqDiff,xx,fd53,m53,hL,hL2,hne]
     rw[zag (S53' f f' k k' a b) a.length (by unfold LF;omega)]
     . rw[S53'];simp(disch:=apply zq;omega) only[go_sem,simprocAttr,↓Nat.reduceEqDiff,xx,hL]
     . rw[S53'];simp(disch:=apply zq;omega) only[go_sem,simprocAttr,↓Nat.reduceEqDiff,xx,hL]
     . exact hs2
     . rw[S53'];simp(disch:=apply zq;omega) only[go_sem,simprocAttr,↓Nat.reduceEqDiff,xx,hL]
   . rw[decide_eq_false (fun h=>he (by rw[h]))]
     obtain⟨st',hs1,hg⟩:=zcn (hf q hq he)
     have hs2:=fun i (hi:i<q)=>st i (by omega) (hb' i hi)
     simp only[L53,m53]at hs2 hs1
     simp(disch:=apply zq;omega) only[go_sem,simprocAttr,↓Nat.reduceEqDiff,xx,fd53,m53,hL,hL2,hne]
     rw[zag (S53' f f' k k' a b) q (by unfold LF;omega),hs1]
     . simp(disch:=apply zq;omega) only[go_sem,simprocAttr,↓Nat.reduceEqDiff,xx,hg]
     . rw[S53'];simp(disch:=apply zq;omega) only[go_sem,simprocAttr,↓Nat.reduceEqDiff,xx,hL]
     . exact hs2
     . rw[hs1];rfl
 . rw[decide_eq_false (fun h=>hlen (by rw[h]))]
   have hne:((a.length:Int) != (b.length:Int))=true:=by rw[bne_iff_ne];omega
   simp(disch:=apply zq;omega) only[go_sem,simprocAttr,↓Nat.reduceEqDiff,xx,fd53,m53,hL,hL2,hne]
def L15' :MC:=match m15 with| .seq _ (.seq _ (.seq _ (.seq (.seq _ (.block _ (.loop _ b))) _)))=>b|_=>.skip
def zkq :MC:=match m15 with| .seq _ (.seq _ (.seq _ (.seq _ (.seq _ (.seq _ (.seq (.seq _ (.block _ (.loop _ b))) _))))))=>b|_=>.skip
def S15' (f:Bool)(sh:Sh)(l:List Rv)(ld:AV)(i:Nat):St:=⟨[.set 23 (i64 i),.set 22 (i64 l.length),.set 21 (.lst f sh (rvs l)),.set 3 (.ptr 3 []),.set 1 (.ptr 1 [])],[(3,.fix (.st [.sc,.sc]) (pv8 (fs l) i)),(1,.fix sLd ld)]⟩
def zkp (f:Bool)(sh:Sh)(hs:List Hd)(ld:AV)(a:List Dg)(i:Nat):St:=⟨[.set 70 (i64 i),.set 69 (i64 hs.length),.set 68 (.lst f sh (hds hs)),.set 6 (.lst false sB (dgL a)),.set 1 (.ptr 1 [])],[(1,.fix sLd ld)]⟩
section
variable {s z:Int} {f f2 f3:Bool} {sh sh2 sh3:Sh} {l:List Rv} {t:List Dg} {hs:List Hd}
theorem z7w [Nonempty (GlK gl)][Nonempty (M.GlB gl)]{d:Nat}(hd:14<=d)(hl:l.length<=800)(h2:Sr l sh)(ok:∀x∈l,RvOk gl x){U:List AV}(i:Nat)(hi:i<l.length)(hv:RV s l i) :
  zbd [.slot 1,.slot 3,.slot 21,.slot 22,.slot 23,.key 1,.key 3] (evC gl (call gl tab d) L15' (S15' f sh l (ldAV s f sh l z f2 sh2 t f3 sh3 U) i))=some (S15' f sh l (ldAV s f sh l z f2 sh2 t f3 sh3 U) (i+1)):=by
 obtain rfl:sh=sRe:=h2.resolve_left (fun e=>by subst e;simp at hi)
 have hx:=zhp hi
 have o:=ok _ (zfc hi)
 have h1:=o.sh
 have hc:=o.l d (by omega)
 have q1:=H.bytes_all (rat l i).f
 have q2:=b16 o.f
 have hL:=zaz l
 have e1:((rat l i).site != s)=false:=by rw[hv.1];exact bne_self_eq_false _
 have e2:((rat l i).seq != (i:Int))=false:=by rw[hv.2];exact bne_self_eq_false _
 have al:=zcp ok
 have lf:=zan l
 obtain⟨f1,s1,ee,k1⟩:=M.pv8_eq (fs l) i
 have c:=M.append_ok (gl:=gl) (n:=d) hd (s:=i) (f:=f1) (sh:=s1) (t:=P8 (fs l) i) (leaf:=M.dgA (fs l) i) (al.at (by omega)) (by have:=M.P8_le (fs l) (by omega) (k:=i) (by omega);omega) (M.P8_all (fs l) i (by omega) al) k1 (by omega) (M.P8_form (by omega) (by omega))
 rw[<-ee,M.P8_next (by omega)]at c
 have ea:M.dgA (fs l) i=(rat l i).f:=by simp[M.dgA,fs,rat,hi]
 rw[ea]at c
 obtain⟨u,eu⟩:∃u,pv8 (fs l) i= .agg [i64 i,u]:=⟨_,rfl⟩
 rw[S15',S15',M.pv8_s]
 rw[eu]at c ⊢
 have nn:=M.dgL_noImms (P8 (fs l) (i+1))
 clear hv o ea
 generalize P8 (fs l) (i+1)=p at *
 generalize rat l i=y at *
 simp(disch:=apply zq;omega) only[go_sem,simprocAttr,↓Nat.reduceEqDiff,xx,L15',m15,↓out16_eq,H.oo,hx,hL,h1,hc,q1,q2,c,nn,e1,e2]
theorem qly {d:Nat}(hl:l.length<=800)(h2:Sr l sh)(ok:∀x∈l,RvOk gl x){U:List AV}(i:Nat)(hi:i<l.length)(hv:¬RV s l i) :
  out1 2 (evC gl (call gl tab d) L15' (S15' f sh l (ldAV s f sh l z f2 sh2 t f3 sh3 U) i))=some (.ret,.bool false):=by
 obtain rfl:sh=sRe:=h2.resolve_left (fun e=>by subst e;simp at hi)
 have hx:=zhp hi
 have h1:=(ok _ (zfc hi)).sh
 have hL:=zaz l
 obtain⟨u,eu⟩:∃u,pv8 (fs l) i= .agg [i64 i,u]:=⟨_,rfl⟩
 rw[S15',eu]
 by_cases q:(rat l i).site=s
 . have e2:((rat l i).seq != (i:Int))=true:=by rw[bne_iff_ne];exact fun e=>hv ⟨q,e⟩
   have e1:((rat l i).site != s)=false:=by rw[q];exact bne_self_eq_false _
   clear hv q
   generalize rat l i=y at *
   simp(disch:=apply zq;omega) only[go_sem,simprocAttr,↓Nat.reduceEqDiff,xx,L15',m15,↓out16_eq,H.oo,hx,hL,h1,e1,e2]
 . have e1:((rat l i).site != s)=true:=by rw[bne_iff_ne];exact q
   clear hv q
   generalize rat l i=y at *
   simp(disch:=apply zq;omega) only[go_sem,simprocAttr,↓Nat.reduceEqDiff,xx,L15',m15,↓out16_eq,H.oo,hx,hL,h1,e1]
variable [Nonempty (GlK gl)]
theorem z9h {d:Nat}(hd:820<=d)(hl:l.length<=800)(ok:∀x∈l,RvOk gl x)(h3:hs=[]\/sh3=sHd)(hhl:hs.length<=60000)(hh:∀y∈hs,HdOk y)(k:Nat)(hk:k<hs.length)(hv:HV s l hs k) :
  zbd [.slot 1,.slot 6,.slot 68,.slot 69,.slot 70,.key 1] (evC gl (call gl tab d) zkq (zkp f3 sh3 hs (ldAV s f sh l z f2 sh2 t f3 sh3 (hds hs)) (fs l) k))=some (zkp f3 sh3 hs (ldAV s f sh l z f2 sh2 t f3 sh3 (hds hs)) (fs l) (k+1)):=by
 obtain rfl:sh3=sHd:=h3.resolve_left (fun e=>by subst e;simp at hk)
 have hL:=dgL_length (fs l)
 rw[zan]at hL
 have hLh:=zbf hs
 have hy:=zeu hk
 have oy:=hh _ (zco hk)
 obtain⟨v1,v2,v3,v4,v5⟩:=hv
 obtain⟨m,hm⟩:∃m:Nat,(hdat hs k).size=(m:Int):=⟨(hdat hs k).size.toNat,by omega⟩
 rw[hm,wC]at v4
 have c:=M.root_at (gl:=gl) 800 (n:=d) ((fs l).take m) false sB (by rw[wF,zan];omega) (by omega) ((zcp ok).take _) (by rw[wF,zan];omega) (.inr rfl)
 have htk:List.take m (dgL (fs l))=dgL ((fs l).take m):=by simp[M.dgL,wI]
 have e1:((hdat hs k).site != s)=false:=by rw[v1];exact bne_self_eq_false _
 have er:(hdat hs k).root=Mk.rt M.nd M.em ((fs l).take m):=v4
 rw[<-er]at c
 have q1:=oy.r
 have q2:=oy.s
 have w1:=H.bytes_all (hdat hs k).root
 have w2:=H.bytes_all (hdat hs k).sgn
 have eB:=eqB q1 q1
 rw[decide_eq_true rfl]at eB
 have u1:=b16 q1
 have u2:=b16 q2
 clear er v4 oy v1
 rw[hm]at v2 v3 v5
 rw[zkp,zkp]
 by_cases k0:k=0
 . subst k0
   generalize hdat hs 0=y at *
   simp(disch:=apply zq;omega) only[go_sem,simprocAttr,↓Nat.reduceEqDiff,xx,zkq,m15,↓out16_eq,H.oo,hL,hLh,hy,hm,htk,c,e1,q1,q2,u1,u2,w1,w2,eB]
 . obtain⟨v6,v7⟩:=v5 (by omega)
   have hy':=zeu (l:=hs) (i:=k-1) (by omega)
   have ek:((k:Int)-1)=((k-1:Nat):Int):=by omega
   clear v5
   generalize hdat hs k=y at *
   generalize hdat hs (k-1)=x at *
   simp(disch:=apply zq;omega) only[go_sem,simprocAttr,↓Nat.reduceEqDiff,xx,zkq,m15,↓out16_eq,H.oo,hL,hLh,hy,hy',hm,ek,htk,c,e1,q1,q2,u1,u2,w1,w2,eB]
theorem qg7 {d:Nat}(hd:820<=d)(hl:l.length<=800)(ok:∀x∈l,RvOk gl x)(h3:hs=[]\/sh3=sHd)(hhl:hs.length<=60000)(hh:∀y∈hs,HdOk y)(k:Nat)(hk:k<hs.length)(hv:¬HV s l hs k) :
  out1 2 (evC gl (call gl tab d) zkq (zkp f3 sh3 hs (ldAV s f sh l z f2 sh2 t f3 sh3 (hds hs)) (fs l) k))=some (.ret,.bool false):=by
 obtain rfl:sh3=sHd:=h3.resolve_left (fun e=>by subst e;simp at hk)
 have hL:=dgL_length (fs l)
 rw[zan]at hL
 have hLh:=zbf hs
 have hy:=zeu hk
 have oy:=hh _ (zco hk)
 have q1:=oy.r
 have q2:=oy.s
 have w1:=H.bytes_all (hdat hs k).root
 have w2:=H.bytes_all (hdat hs k).sgn
 have u1:=b16 q1
 have u2:=b16 q2
 clear oy
 rw[zkp]
 by_cases v1:(hdat hs k).site=s
 rotate_left
 . have e1:((hdat hs k).site != s)=true:=by rw[bne_iff_ne];exact v1
   clear hv v1
   generalize hdat hs k=y at *
   simp(disch:=apply zq;omega) only[go_sem,simprocAttr,↓Nat.reduceEqDiff,xx,zkq,m15,↓out16_eq,H.oo,hL,hLh,hy,e1,q1,q2,u1,u2,w1,w2]
 have e1:((hdat hs k).site != s)=false:=by rw[v1];exact bne_self_eq_false _
 by_cases v2:0<=(hdat hs k).size
 rotate_left
 . clear hv v1
   generalize hdat hs k=y at *
   simp(disch:=apply zq;omega) only[go_sem,simprocAttr,↓Nat.reduceEqDiff,xx,zkq,m15,↓out16_eq,H.oo,hL,hLh,hy,e1,q1,q2,u1,u2,w1,w2]
 by_cases v3:(hdat hs k).size<=l.length
 rotate_left
 . clear hv v1
   generalize hdat hs k=y at *
   simp(disch:=apply zq;omega) only[go_sem,simprocAttr,↓Nat.reduceEqDiff,xx,zkq,m15,↓out16_eq,H.oo,hL,hLh,hy,e1,q1,q2,u1,u2,w1,w2]
 obtain⟨m,hm⟩:∃m:Nat,(hdat hs k).size=(m:Int):=⟨(hdat hs k).size.toNat,by omega⟩
 have c:=M.root_at (gl:=gl) 800 (n:=d) ((fs l).take m) false sB (by rw[wF,zan];omega) (by omega) ((zcp ok).take _) (by rw[wF,zan];omega) (.inr rfl)
 have htk:List.take m (dgL (fs l))=dgL ((fs l).take m):=by simp[M.dgL,wI]
 have q3:(Mk.rt M.nd M.em ((fs l).take m)).length=16:=M.rt_len ((zcp ok).take _)
 have eB:=eqB q1 q3
 have hR:R8 (fs l) (hdat hs k).size.toNat=Mk.rt M.nd M.em ((fs l).take m):=by rw[hm,wC,R8]
 have u3:=b16 q3
 have w3:=H.bytes_all (Mk.rt M.nd M.em ((fs l).take m))
 by_cases v4:(hdat hs k).root=Mk.rt M.nd M.em ((fs l).take m)
 rotate_left
 . rw[decide_eq_false v4]at eB
   clear hv v1 v4 hR
   rw[hm]at v2 v3
   generalize Mk.rt M.nd M.em ((fs l).take m)=r at *
   generalize hdat hs k=y at *
   simp(disch:=apply zq;omega) only[go_sem,simprocAttr,↓Nat.reduceEqDiff,xx,zkq,m15,↓out16_eq,H.oo,hL,hLh,hy,hm,htk,c,e1,q1,q2,q3,u1,u2,u3,w1,w2,w3,eB]
 rw[decide_eq_true v4]at eB
 have k0:0<k:=by
  by_cases k0:0<k
  . exact k0
  . exact absurd ⟨v1,v2,v3,by rw[hR];exact v4,fun h=>absurd h k0⟩ hv
 have hy':=zeu (l:=hs) (i:=k-1) (by omega)
 have ek:((k:Int)-1)=((k-1:Nat):Int):=by omega
 have v5:¬((hdat hs (k-1)).size<=(m:Int)/\(hdat hs (k-1)).lo<=(hdat hs k).lo):=fun h=>hv ⟨v1,v2,v3,by rw[hR];exact v4,fun _=>by rw[hm];exact h⟩
 clear hv v1 v4 hR
 rw[hm]at v2 v3
 generalize Mk.rt M.nd M.em ((fs l).take m)=r at *
 generalize hdat hs k=y at *
 generalize hdat hs (k-1)=x at *
 by_cases v6:x.size<=(m:Int)
 . have v7:¬x.lo<=y.lo:=fun h=>v5 ⟨v6,h⟩
   clear v5
   simp(disch:=apply zq;omega) only[go_sem,simprocAttr,↓Nat.reduceEqDiff,xx,zkq,m15,↓out16_eq,H.oo,hL,hLh,hy,hy',hm,ek,htk,c,e1,q1,q2,q3,u1,u2,u3,w1,w2,w3,eB]
 . clear v5
   simp(disch:=apply zq;omega) only[go_sem,simprocAttr,↓Nat.reduceEqDiff,xx,zkq,m15,↓out16_eq,H.oo,hL,hLh,hy,hy',hm,ek,htk,c,e1,q1,q2,q3,u1,u2,u3,w1,w2,w3,eB]
end
end Go.Proofs.S44.L
namespace Go.Proofs.S44.L
open Go Go.Ev Go.Proofs Go.Proofs.S44
open Go.Proofs.S44.H (strsAV zaa zai Sml GlK GlR)
open Go.Proofs.S44.M (lf zcv Dg dgL dgL_length All16 Sd sB pkAV grw P8 R8 pv8)
variable {gl :Gl} {n:Nat}
section
variable {s z:Int} {f f2 f3:Bool} {sh sh2 sh3:Sh} {l:List Rv} {t:List Dg} {hs:List Hd}
theorem zz1 [Nonempty (GlK gl)][Nonempty (M.GlB gl)](h:830<=n)(h2:Sr l sh)(hl:l.length<=800)(ok:∀x∈l,RvOk gl x)(hz:-9223372036854775808<=z/\z<=9223372036854775807)(ht:t.length<=60000)(ha:All16 t)(h4:Sd t sh2 sB)
  (h3:hs=[]\/sh3=sHd) (hhl:hs.length<=60000) (hh:∀y∈hs,HdOk y) :
  ∃b:Bool,call gl tab n 15 [ldAV s f sh l z f2 sh2 t f3 sh3 (hds hs)] []=some (.bool b,[],[])/\(b=true↔VL s l z t hs):=by
 obtain⟨d,rfl⟩:=wB h
 have c0:=@site_at gl (d+829) (by omega) s
 have hL:=zaz l
 have hLh:=zbf hs
 by_cases g0:0<=s/\s<64
 rotate_left
 . refine⟨false,?_,by simp only[VL,g0,false_and,Bool.false_eq_true]⟩
   rw[decide_eq_false g0]at c0
   rw[zad (fd:=fd15) rfl]
   simp(disch:=apply zq;omega) only[go_sem,simprocAttr,↓Nat.reduceEqDiff,xx,fd15,m15,c0]
 rw[decide_eq_true g0]at c0
 have z0:=M.pv8_z (fs l)
 rcases zbv (fun i=>RV s l i) l.length with g1|⟨q,hq,hb',he⟩
 rotate_left
 . refine⟨false,?_,by
    constructor
    . intro h;cases h
    . intro h;exact absurd (h.2.1 q hq) he⟩
   obtain⟨st,hs1,hg⟩:=zcn (@qly gl s z f f2 f3 sh sh2 sh3 l t (d+829) hl h2 ok (hds hs) q hq he)
   have hs2:=fun i (hi:i<q)=>z7w (gl:=gl) (s:=s) (z:=z) (f:=f) (f2:=f2) (f3:=f3) (sh2:=sh2) (sh3:=sh3) (t:=t) (d:=d+829) (by omega) hl h2 ok (U:=hds hs) i (by omega) (hb' i hi)
   simp only[L15',m15,↓out16_eq]at hs1 hs2
   rw[zad (fd:=fd15) rfl]
   simp(disch:=apply zq;omega) only[go_sem,simprocAttr,↓Nat.reduceEqDiff,xx,fd15,m15,↓out16_eq,H.oo,c0,hL]
   rw[zag (S15' f sh l (ldAV s f sh l z f2 sh2 t f3 sh3 (hds hs))) q (by unfold LF;omega),hs1]
   . simp(disch:=apply zq;omega) only[go_sem,simprocAttr,↓Nat.reduceEqDiff,xx,hg]
   . rw[S15',z0];simp(disch:=apply zq;omega) only[go_sem,simprocAttr,↓Nat.reduceEqDiff,xx,hL]
   . exact hs2
   . rw[hs1];rfl
 have st1:=fun i hi=>z7w (gl:=gl) (s:=s) (z:=z) (f:=f) (f2:=f2) (f3:=f3) (sh2:=sh2) (sh3:=sh3) (t:=t) (d:=d+829) (by omega) hl h2 ok (U:=hds hs) i hi (g1 i hi)
 have c1:=@zl6 gl (d+829) (by omega) s z f f2 f3 sh sh2 sh3 l t (hds hs) h2 (by omega) ok l.length (wA _)
 rw[List.take_of_length_le (wA _)]at c1
 obtain⟨f5,s5,e5,k5⟩:=M.pv8_eq (fs l) l.length
 have c3:=@qcb gl (d+829) (by omega) f5 f2 s5 sh2 (P8 (fs l) l.length) t (M.P8_all _ _ (by rw[zan];exact wA _) (zcp ok)) ha k5 h4 (by have:=M.P8_le (fs l) (by rw[zan];omega) (k:=l.length) (by rw[zan];exact wA _);omega) (by omega)
 have st2:=fun k hk hv=>@z9h gl s z f f2 f3 sh sh2 sh3 l t hs _ (d+829) (by omega) hl ok h3 hhl hh k hk hv
 have bd2:=fun k hk hv=>@qg7 gl s z f f2 f3 sh sh2 sh3 l t hs _ (d+829) (by omega) hl ok h3 hhl hh k hk hv
 simp only[L15',m15,↓out16_eq]at st1
 have eE:S15' f sh l (ldAV s f sh l z f2 sh2 t f3 sh3 (hds hs)) l.length=⟨[.set 23 (i64 l.length),.set 22 (i64 l.length),.set 21 (.lst f sh (rvs l)),.set 3 (.ptr 3 []),.set 1 (.ptr 1 [])],[(3,.fix (.st [.sc,.sc]) (pkAV l.length f5 s5 (P8 (fs l) l.length))),(1,.fix sLd (ldAV s f sh l z f2 sh2 t f3 sh3 (hds hs)))]⟩:=by rw[S15',e5]
 by_cases g2:z=l.length
 rotate_left
 . refine⟨false,?_,by
    constructor
    . intro h;cases h
    . intro h;exact absurd h.2.2.1.1 g2⟩
   have en:((l.length:Int) != z)=true:=by rw[bne_iff_ne];exact fun e=>g2 e.symm
   rw[zad (fd:=fd15) rfl]
   simp(disch:=apply zq;omega) only[go_sem,simprocAttr,↓Nat.reduceEqDiff,xx,fd15,m15,↓out16_eq,H.oo,c0,hL]
   rw[zag (S15' f sh l (ldAV s f sh l z f2 sh2 t f3 sh3 (hds hs))) l.length (by unfold LF;omega)]
   . rw[eE]
     generalize P8 (fs l) l.length=p at *
     simp(disch:=apply zq;omega) only[go_sem,simprocAttr,↓Nat.reduceEqDiff,xx,hL,c1,c3,en]
   . rw[S15',z0];simp(disch:=apply zq;omega) only[go_sem,simprocAttr,↓Nat.reduceEqDiff,xx,hL]
   . exact st1
   . rw[S15'];simp(disch:=apply zq;omega) only[go_sem,simprocAttr,↓Nat.reduceEqDiff,xx,hL]
 have en:((l.length:Int) != z)=false:=by rw[g2];exact bne_self_eq_false _
 by_cases g3:P8 (fs l) l.length=t
 rotate_left
 . refine⟨false,?_,by
    constructor
    . intro h;cases h
    . intro h;exact absurd h.2.2.1.2.symm g3⟩
   rw[decide_eq_false g3]at c3
   clear g3
   rw[zad (fd:=fd15) rfl]
   simp(disch:=apply zq;omega) only[go_sem,simprocAttr,↓Nat.reduceEqDiff,xx,fd15,m15,↓out16_eq,H.oo,c0,hL]
   rw[zag (S15' f sh l (ldAV s f sh l z f2 sh2 t f3 sh3 (hds hs))) l.length (by unfold LF;omega)]
   . rw[eE]
     generalize P8 (fs l) l.length=p at *
     simp(disch:=apply zq;omega) only[go_sem,simprocAttr,↓Nat.reduceEqDiff,xx,hL,c1,c3,en]
   . rw[S15',z0];simp(disch:=apply zq;omega) only[go_sem,simprocAttr,↓Nat.reduceEqDiff,xx,hL]
   . exact st1
   . rw[S15'];simp(disch:=apply zq;omega) only[go_sem,simprocAttr,↓Nat.reduceEqDiff,xx,hL]
 rw[decide_eq_true g3]at c3
 rcases zbv (fun i=>HV s l hs i) hs.length with g4|⟨q,hq,hb',he⟩
 . refine⟨true,?_,by
    constructor
    . intro _;exact⟨g0,g1,⟨g2,g3.symm⟩,g4⟩
    . intro _;rfl⟩
   have st2:=fun k hk=>st2 k hk (g4 k hk)
   simp only[zkq,m15,↓out16_eq]at st2
   clear g3 bd2
   rw[zad (fd:=fd15) rfl]
   simp(disch:=apply zq;omega) only[go_sem,simprocAttr,↓Nat.reduceEqDiff,xx,fd15,m15,↓out16_eq,H.oo,c0,hL]
   rw[zag (S15' f sh l (ldAV s f sh l z f2 sh2 t f3 sh3 (hds hs))) l.length (by unfold LF;omega)]
   . rw[eE]
     generalize P8 (fs l) l.length=p at *
     simp(disch:=apply zq;omega) only[go_sem,simprocAttr,↓Nat.reduceEqDiff,xx,↓out16_eq,H.oo,hL,hLh,c1,c3,en]
     rw[zag (zkp f3 sh3 hs (ldAV s f sh l z f2 sh2 t f3 sh3 (hds hs)) (fs l)) hs.length (by unfold LF;omega)]
     . rw[zkp];simp(disch:=apply zq;omega) only[go_sem,simprocAttr,↓Nat.reduceEqDiff,xx,hLh]
     . rw[zkp];simp(disch:=apply zq;omega) only[go_sem,simprocAttr,↓Nat.reduceEqDiff,xx,hLh]
     . exact st2
     . rw[zkp];simp(disch:=apply zq;omega) only[go_sem,simprocAttr,↓Nat.reduceEqDiff,xx,hLh]
   . rw[S15',z0];simp(disch:=apply zq;omega) only[go_sem,simprocAttr,↓Nat.reduceEqDiff,xx,hL]
   . exact st1
   . rw[S15'];simp(disch:=apply zq;omega) only[go_sem,simprocAttr,↓Nat.reduceEqDiff,xx,hL]
 . refine⟨false,?_,by
    constructor
    . intro h;cases h
    . intro h;exact absurd (h.2.2.2 q hq) he⟩
   obtain⟨st,hs1,hg⟩:=zcn (bd2 q hq he)
   have st2:=fun k (hk:k<q)=>st2 k (by omega) (hb' k hk)
   simp only[zkq,m15,↓out16_eq]at st2 hs1
   clear g3 bd2
   rw[zad (fd:=fd15) rfl]
   simp(disch:=apply zq;omega) only[go_sem,simprocAttr,↓Nat.reduceEqDiff,xx,fd15,m15,↓out16_eq,H.oo,c0,hL]
   rw[zag (S15' f sh l (ldAV s f sh l z f2 sh2 t f3 sh3 (hds hs))) l.length (by unfold LF;omega)]
   . rw[eE]
     generalize P8 (fs l) l.length=p at *
     simp(disch:=apply zq;omega) only[go_sem,simprocAttr,↓Nat.reduceEqDiff,xx,↓out16_eq,H.oo,hL,hLh,c1,c3,en]
     rw[zag (zkp f3 sh3 hs (ldAV s f sh l z f2 sh2 t f3 sh3 (hds hs)) (fs l)) q (by unfold LF;omega),hs1]
     . simp(disch:=apply zq;omega) only[go_sem,simprocAttr,↓Nat.reduceEqDiff,xx,hg]
     . rw[zkp];simp(disch:=apply zq;omega) only[go_sem,simprocAttr,↓Nat.reduceEqDiff,xx,hLh]
     . exact st2
     . rw[hs1];rfl
   . rw[S15',z0];simp(disch:=apply zq;omega) only[go_sem,simprocAttr,↓Nat.reduceEqDiff,xx,hL]
   . exact st1
   . rw[S15'];simp(disch:=apply zq;omega) only[go_sem,simprocAttr,↓Nat.reduceEqDiff,xx,hL]
end
end Go.Proofs.S44.L
namespace Go.Proofs.S44.L
open Go Go.Ev Go.Proofs Go.Proofs.S44
open Go.Proofs.S44.M (Dg dgL dgL_length All16 Sd sB pkAV grw P8 R8)
theorem qae {l:List Rv}{x:Rv}{i:Nat}(h:i<l.length):rat (l++[x]) i=rat l i:=by
 simp[rat,wD,wH h]
theorem z4l (l:List Rv)(x:Rv):rat (l++[x]) l.length=x:=by
 simp[rat,wD]
theorem zpo {l:List Hd}{x:Hd}{i:Nat}(h:i<l.length):hdat (l++[x]) i=hdat l i:=by
 simp[hdat,wD,wH h]
theorem z09 (l:List Hd)(x:Hd):hdat (l++[x]) l.length=x:=by
 simp[hdat,wD]
theorem zvk (l:List Rv)(x:Rv):fs (l++[x])=fs l++[x.f]:=by simp[fs]
theorem qhp {a:List Dg}{b:List Dg}{k:Nat}(h:k<=a.length):P8 (a++b) k=P8 a k:=by
 rw[P8,P8,wG h]
theorem qho {a:List Dg}{b:List Dg}{k:Nat}(h:k<=a.length):R8 (a++b) k=R8 a k:=by
 rw[R8,R8,wG h]
theorem qbr (l:List Rv)(x:Rv):grw l.length (P8 (fs l) l.length) x.f=P8 (fs (l++[x])) (l.length+1):=by
 have h:=M.P8_next (l:=fs (l++[x])) (k:=l.length) (by rw[zan,wE];simp)
 have e:M.dgA (fs (l++[x])) l.length=x.f:=by
  rw[zvk,M.dgA,wD,<-zan l];simp
 rw[e,zvk,qhp (by rw[zan];exact wA _),<-zvk]at h
 exact h
theorem VL.app {s:Int}{l:List Rv}{z:Int}{t:List Dg}{hs:List Hd}(v:VL s l z t hs){x:Rv}(e1:x.site=s)(e2:x.seq=l.length) :
  VL s (l++[x]) (l.length+1:Nat) (grw l.length t x.f) hs:=by
 obtain⟨v1,v2,⟨v3,v4⟩,v5⟩:=v
 refine⟨v1,fun i hi=> ?_,⟨by simp,by rw[v4,qbr,wE];rfl⟩,fun k hk=> ?_⟩
 . by_cases h:i<l.length
   . rw[RV,qae h];exact v2 i h
   . obtain rfl:i=l.length:=by rw[wE]at hi;simp at hi;omega
     rw[RV,z4l];exact⟨e1,e2⟩
 . obtain⟨h1,h2,h3,h4,h5⟩:=v5 k hk
   refine⟨h1,h2,by rw[wE];omega,?_,h5⟩
   rw[h4,zvk,qho (by rw[zan];omega)]
theorem VL.seal1 {s:Int}{l:List Rv}{z:Int}{t:List Dg}{hs:List Hd}(v:VL s l z t hs){y:Hd}(e1:y.site=s)(e2:y.size=l.length)(e3:y.root=R8 (fs l) l.length)
  (e4:hs=[]\/(hdat hs (hs.length-1)).lo<=y.lo):VL s l z t (hs++[y]):=by
 obtain⟨v1,v2,v3,v5⟩:=v
 refine⟨v1,v2,v3,fun k hk=> ?_⟩
 by_cases h:k<hs.length
 . obtain⟨h1,h2,h3,h4,h5⟩:=v5 k h
   rw[HV,zpo h]
   refine⟨h1,h2,h3,h4,fun k0=> ?_⟩
   rw[zpo (by omega)];exact h5 k0
 . obtain rfl:k=hs.length:=by rw[wE]at hk;simp at hk;omega
   rw[HV,z09]
   refine⟨e1,by omega,by omega,by rw[e3,e2,wC],fun k0=> ?_⟩
   rw[zpo (by omega)]
   obtain⟨_,_,h3,_,_⟩:=v5 (hs.length-1) (by omega)
   have e4:=e4.resolve_left (fun e=>by rw[e]at k0;simp at k0)
   exact⟨by omega,e4⟩
end Go.Proofs.S44.L
