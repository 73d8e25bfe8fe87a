/-
  Chapter 44: what a valid ledger is, as specified. No condition.
-/
import Derived.Test.YtcddalfeicoedaaGreatDoorW44G20x6
set_option linter.all false
open Nat renaming exists_eq_add_of_le'->wA,le_refl->wB
open List renaming length_take->wC,length_append->wD,take_of_length_le->wE,map_take->wF
namespace Go.Proofs.S44.L
open Go Go.Ev Go.Proofs Go.Proofs.S44
open Go.Proofs.S44.H (strsAV zaa zal Sml GlK GlR)
open Go.Proofs.S44.M (Dg dgL dgL_length All16 Sd sB P8 R8)
variable {gl :Gl} {n:Nat}
def HV (s:Int)(l:List Rv)(hs:List Hd)(k:Nat):Prop :=
 (hdat hs k).site=s/\0<=(hdat hs k).size/\(hdat hs k).size<=l.length/\(hdat hs k).root=R8 (fs l) (hdat hs k).size.toNat /\
   (0<k->(hdat hs (k-1)).size<=(hdat hs k).size/\(hdat hs (k-1)).lo<=(hdat hs k).lo)
def RV (s:Int)(l:List Rv)(i:Nat):Prop:=(rat l i).site=s/\(rat l i).seq=i
def VL (s:Int)(l:List Rv)(z:Int)(t:List Dg)(hs:List Hd):Prop :=
 (0<=s/\s<64)/\(∀i,i<l.length->RV s l i)/\(z=l.length/\t=P8 (fs l) l.length)/\∀k,k<hs.length->HV s l hs k
theorem rsite_at (h:1<=n)(a:Int):call gl tab n 48 [i64 a] []=some (.bool (decide (0<=a/\a<64)),[],[]):=by
 obtain⟨d,rfl⟩:=wA h
 rw[zad (fd:=fd48) rfl]
 by_cases h1:0<=a
 . by_cases h2:a<64
   . rw[decide_eq_true ⟨h1,h2⟩];simp(disch:=apply zq;omega) only[go_sem,simprocAttr,↓Nat.reduceEqDiff,xx,fd48,m48]
   . rw[decide_eq_false (fun h=>h2 h.2)];simp(disch:=apply zq;omega) only[go_sem,simprocAttr,↓Nat.reduceEqDiff,xx,fd48,m48]
 . rw[decide_eq_false (fun h=>h1 h.1)];simp(disch:=apply zq;omega) only[go_sem,simprocAttr,↓Nat.reduceEqDiff,xx,fd48,m48]
def L13 :MC:=match m13 with| .seq _ (.seq _ (.seq _ (.seq (.seq _ (.block _ (.loop _ b))) _)))=>b|_=>.skip
def L13b :MC:=match m13 with| .seq _ (.seq _ (.seq _ (.seq _ (.seq _ (.seq _ (.seq _ (.seq (.seq _ (.block _ (.loop _ b))) _)))))))=>b|_=>.skip
def S13 (ld:AV)(i:Nat):St:=⟨[.set 4 (i64 i),.set 1 (.ptr 1 [])],[(1,.fix sLd ld)]⟩
def S13b (ld:AV)(a:List Dg)(i:Nat):St:=⟨[.set 7 (i64 i),.set 5 (.lst false sB (dgL a)),.set 1 (.ptr 1 [])],[(1,.fix sLd ld)]⟩
section
variable {s z:Int} {f f2 f3:Bool} {sh sh2 sh3:Sh} {l:List Rv} {t:List Dg} {hs:List Hd}
theorem z77 {d:Nat}(hl:l.length<=800)(h2:Sr l sh)(ok:∀x∈l,RvOk gl x){U:List AV}(i:Nat)(hi:i<l.length)(hv:RV s l i) :
  zbe [.slot 1,.slot 4,.key 1] (evC gl (call gl tab d) L13 (S13 (ldAV s f sh l z f2 sh2 t f3 sh3 U) i))=some (S13 (ldAV s f sh l z f2 sh2 t f3 sh3 U) (i+1)):=by
 obtain rfl:sh=sRe:=h2.resolve_left (fun e=>by subst e;simp at hi)
 have hx:=zj9 hi
 have h1:=(ok _ (zgq hi)).sh
 have hL:=zbc l
 have e1:((rat l i).site != s)=false:=by rw[hv.1];exact bne_self_eq_false _
 have e2:((rat l i).seq != (i:Int))=false:=by rw[hv.2];exact bne_self_eq_false _
 clear hv
 generalize rat l i=y at *
 rw[S13,S13]
 simp(disch:=apply zq;omega) only[go_sem,simprocAttr,↓Nat.reduceEqDiff,xx,L13,m13,hx,hL,h1,e1,e2]
theorem ql8 {d:Nat}(hl:l.length<=800)(h2:Sr l sh)(ok:∀x∈l,RvOk gl x){U:List AV}(i:Nat)(hi:i<l.length)(hv:¬RV s l i) :
  out1 2 (evC gl (call gl tab d) L13 (S13 (ldAV s f sh l z f2 sh2 t f3 sh3 U) i))=some (.ret,.bool false):=by
 obtain rfl:sh=sRe:=h2.resolve_left (fun e=>by subst e;simp at hi)
 have hx:=zj9 hi
 have h1:=(ok _ (zgq hi)).sh
 have hL:=zbc l
 by_cases q:(rat l i).site=s
 . have e2:((rat l i).seq != (i:Int))=true:=by rw[bne_iff_ne];exact fun e=>hv ⟨q,e⟩
   have e1:((rat l i).site != s)=false:=by rw[q];exact bne_self_eq_false _
   clear hv q
   generalize rat l i=y at *
   rw[S13]
   simp(disch:=apply zq;omega) only[go_sem,simprocAttr,↓Nat.reduceEqDiff,xx,L13,m13,hx,hL,h1,e1,e2]
 . have e1:((rat l i).site != s)=true:=by rw[bne_iff_ne];exact q
   clear hv q
   generalize rat l i=y at *
   rw[S13]
   simp(disch:=apply zq;omega) only[go_sem,simprocAttr,↓Nat.reduceEqDiff,xx,L13,m13,hx,hL,h1,e1]
variable [Nonempty (GlR gl)]
theorem z9r {d:Nat}(hd:820<=d)(hl:l.length<=800)(ok:∀x∈l,RvOk gl x)(h3:hs=[]\/sh3=sHd)(hhl:hs.length<=60000)(hh:∀y∈hs,HdOk y)(k:Nat)(hk:k<hs.length)(hv:HV s l hs k) :
  zbe [.slot 1,.slot 5,.slot 7,.key 1] (evC gl (call gl tab d) L13b (S13b (ldAV s f sh l z f2 sh2 t f3 sh3 (hds hs)) (fs l) k))=some (S13b (ldAV s f sh l z f2 sh2 t f3 sh3 (hds hs)) (fs l) (k+1)):=by
 obtain rfl:sh3=sHd:=h3.resolve_left (fun e=>by subst e;simp at hk)
 have hL:=dgL_length (fs l)
 rw[za4]at hL
 have hLh:=zb3 hs
 have hy:=ziv hk
 have oy:=hh _ (zdn hk)
 obtain⟨v1,v2,v3,v4,v5⟩:=hv
 obtain⟨m,hm⟩:∃m:Nat,(hdat hs k).size=(m:Int):=⟨(hdat hs k).size.toNat,by omega⟩
 rw[hm,Int.toNat_natCast]at v4
 have c:=M.rroot_at (gl:=gl) 800 (n:=d) ((fs l).take m) false sB (by rw[wC,za4];omega) (by omega) ((zdp ok).take _) (by rw[wC,za4];omega) (.inr rfl)
 have htk:List.take m (dgL (fs l))=dgL ((fs l).take m):=by simp[M.dgL,wF]
 have e1:((hdat hs k).site != s)=false:=by rw[v1];exact bne_self_eq_false _
 have er:(hdat hs k).root=Mk.rt M.nd M.em ((fs l).take m):=v4
 rw[<-er]at c
 have q1:=oy.r
 have q2:=oy.s
 have w1:=H.bytes_all (hdat hs k).root
 have w2:=H.bytes_all (hdat hs k).sgn
 have eB:=eqB q1 q1
 rw[decide_eq_true rfl]at eB
 have u1:=b16 q1
 have u2:=b16 q2
 clear er v4 oy v1
 rw[hm]at v2 v3 v5
 rw[S13b,S13b]
 by_cases k0:k=0
 . subst k0
   generalize hdat hs 0=y at *
   simp(disch:=apply zq;omega) only[go_sem,simprocAttr,↓Nat.reduceEqDiff,xx,L13b,m13,↓out16_eq,H.oo,hL,hLh,hy,hm,htk,c,e1,q1,q2,u1,u2,w1,w2,eB]
 . obtain⟨v6,v7⟩:=v5 (by omega)
   have hy':=ziv (l:=hs) (i:=k-1) (by omega)
   have ek:((k:Int)-1)=((k-1:Nat):Int):=by omega
   clear v5
   generalize hdat hs k=y at *
   generalize hdat hs (k-1)=x at *
   simp(disch:=apply zq;omega) only[go_sem,simprocAttr,↓Nat.reduceEqDiff,xx,L13b,m13,↓out16_eq,H.oo,hL,hLh,hy,hy',hm,ek,htk,c,e1,q1,q2,u1,u2,w1,w2,eB]
theorem qhl {d:Nat}(hd:820<=d)(hl:l.length<=800)(ok:∀x∈l,RvOk gl x)(h3:hs=[]\/sh3=sHd)(hhl:hs.length<=60000)(hh:∀y∈hs,HdOk y)(k:Nat)(hk:k<hs.length)(hv:¬HV s l hs k) :
  out1 2 (evC gl (call gl tab d) L13b (S13b (ldAV s f sh l z f2 sh2 t f3 sh3 (hds hs)) (fs l) k))=some (.ret,.bool false):=by
 obtain rfl:sh3=sHd:=h3.resolve_left (fun e=>by subst e;simp at hk)
 have hL:=dgL_length (fs l)
 rw[za4]at hL
 have hLh:=zb3 hs
 have hy:=ziv hk
 have oy:=hh _ (zdn hk)
 have q1:=oy.r
 have q2:=oy.s
 have w1:=H.bytes_all (hdat hs k).root
 have w2:=H.bytes_all (hdat hs k).sgn
 have u1:=b16 q1
 have u2:=b16 q2
 clear oy
 rw[S13b]
 by_cases v1:(hdat hs k).site=s
 rotate_left
 . have e1:((hdat hs k).site != s)=true:=by rw[bne_iff_ne];exact v1
   clear hv v1
   generalize hdat hs k=y at *
   simp(disch:=apply zq;omega) only[go_sem,simprocAttr,↓Nat.reduceEqDiff,xx,L13b,m13,↓out16_eq,H.oo,hL,hLh,hy,e1,q1,q2,u1,u2,w1,w2]
 have e1:((hdat hs k).site != s)=false:=by rw[v1];exact bne_self_eq_false _
 by_cases v2:0<=(hdat hs k).size
 rotate_left
 . clear hv v1
   generalize hdat hs k=y at *
   simp(disch:=apply zq;omega) only[go_sem,simprocAttr,↓Nat.reduceEqDiff,xx,L13b,m13,↓out16_eq,H.oo,hL,hLh,hy,e1,q1,q2,u1,u2,w1,w2]
 by_cases v3:(hdat hs k).size<=l.length
 rotate_left
 . clear hv v1
   generalize hdat hs k=y at *
   simp(disch:=apply zq;omega) only[go_sem,simprocAttr,↓Nat.reduceEqDiff,xx,L13b,m13,↓out16_eq,H.oo,hL,hLh,hy,e1,q1,q2,u1,u2,w1,w2]
 obtain⟨m,hm⟩:∃m:Nat,(hdat hs k).size=(m:Int):=⟨(hdat hs k).size.toNat,by omega⟩
 have c:=M.rroot_at (gl:=gl) 800 (n:=d) ((fs l).take m) false sB (by rw[wC,za4];omega) (by omega) ((zdp ok).take _) (by rw[wC,za4];omega) (.inr rfl)
 have htk:List.take m (dgL (fs l))=dgL ((fs l).take m):=by simp[M.dgL,wF]
 have q3:(Mk.rt M.nd M.em ((fs l).take m)).length=16:=M.rt_len ((zdp ok).take _)
 have eB:=eqB q1 q3
 have hR:R8 (fs l) (hdat hs k).size.toNat=Mk.rt M.nd M.em ((fs l).take m):=by rw[hm,Int.toNat_natCast,R8]
 have u3:=b16 q3
 have w3:=H.bytes_all (Mk.rt M.nd M.em ((fs l).take m))
 by_cases v4:(hdat hs k).root=Mk.rt M.nd M.em ((fs l).take m)
 rotate_left
 . rw[decide_eq_false v4]at eB
   clear hv v1 v4 hR
   rw[hm]at v2 v3
   generalize Mk.rt M.nd M.em ((fs l).take m)=r at *
   generalize hdat hs k=y at *
   simp(disch:=apply zq;omega) only[go_sem,simprocAttr,↓Nat.reduceEqDiff,xx,L13b,m13,↓out16_eq,H.oo,hL,hLh,hy,hm,htk,c,e1,q1,q2,q3,u1,u2,u3,w1,w2,w3,eB]
 rw[decide_eq_true v4]at eB
 have k0:0<k:=by
  by_cases k0:0<k
  . exact k0
  . exact absurd ⟨v1,v2,v3,by rw[hR];exact v4,fun h=>absurd h k0⟩ hv
 have hy':=ziv (l:=hs) (i:=k-1) (by omega)
 have ek:((k:Int)-1)=((k-1:Nat):Int):=by omega
 have v5:¬((hdat hs (k-1)).size<=(m:Int)/\(hdat hs (k-1)).lo<=(hdat hs k).lo):=fun h=>hv ⟨v1,v2,v3,by rw[hR];exact v4,fun _=>by rw[hm];exact h⟩
 clear hv v1 v4 hR
 rw[hm]at v2 v3
 generalize Mk.rt M.nd M.em ((fs l).take m)=r at *
 generalize hdat hs k=y at *
 generalize hdat hs (k-1)=x at *
 by_cases v6:x.size<=(m:Int)
 . have v7:¬x.lo<=y.lo:=fun h=>v5 ⟨v6,h⟩
   clear v5
   simp(disch:=apply zq;omega) only[go_sem,simprocAttr,↓Nat.reduceEqDiff,xx,L13b,m13,↓out16_eq,H.oo,hL,hLh,hy,hy',hm,ek,htk,c,e1,q1,q2,q3,u1,u2,u3,w1,w2,w3,eB]
 . clear v5
   simp(disch:=apply zq;omega) only[go_sem,simprocAttr,↓Nat.reduceEqDiff,xx,L13b,m13,↓out16_eq,H.oo,hL,hLh,hy,hy',hm,ek,htk,c,e1,q1,q2,q3,u1,u2,u3,w1,w2,w3,eB]
theorem zzr [Nonempty (GlK gl)][Nonempty (M.GlB gl)](h:830<=n)(h2:Sr l sh)(hl:l.length<=800)(ok:∀x∈l,RvOk gl x)(ok':∀x∈l,RvR gl x)(hz:-9223372036854775808<=z/\z<=9223372036854775807)(ht:t.length<=60000)(ha:All16 t)(h4:Sd t sh2 sB)
  (h3:hs=[]\/sh3=sHd) (hhl:hs.length<=60000) (hh:∀y∈hs,HdOk y) :
  ∃b:Bool,call gl tab n 13 [ldAV s f sh l z f2 sh2 t f3 sh3 (hds hs)] []=some (.bool b,[],[])/\(b=true↔VL s l z t hs):=by
 obtain⟨d,rfl⟩:=wA h
 have c0:=@rsite_at gl (d+829) (by omega) s
 have hL:=zbc l
 have hLh:=zb3 hs
 by_cases g0:0<=s/\s<64
 rotate_left
 . refine⟨false,?_,by simp only[VL,g0,false_and,Bool.false_eq_true]⟩
   rw[decide_eq_false g0]at c0
   rw[zad (fd:=fd13) rfl]
   simp(disch:=apply zq;omega) only[go_sem,simprocAttr,↓Nat.reduceEqDiff,xx,fd13,m13,c0]
 rw[decide_eq_true g0]at c0
 have n0:¬l.length>65536:=by omega
 rcases zb8 (fun i=>RV s l i) l.length with g1|⟨q,hq,hb',he⟩
 rotate_left
 . refine⟨false,?_,by
    constructor
    . intro h;cases h
    . intro h;exact absurd (h.2.1 q hq) he⟩
   obtain⟨st,hs1,hg⟩:=zc9 (@ql8 gl s z f f2 f3 sh sh2 sh3 l t (d+829) hl h2 ok (hds hs) q hq he)
   have hs2:=fun i (hi:i<q)=>@z77 gl s z f f2 f3 sh sh2 sh3 l t (d+829) hl h2 ok (hds hs) i (by omega) (hb' i hi)
   simp only[L13,m13]at hs1 hs2
   rw[zad (fd:=fd13) rfl]
   simp(disch:=apply zq;omega) only[go_sem,simprocAttr,↓Nat.reduceEqDiff,xx,fd13,m13,c0,hL]
   rw[zai (S13 (ldAV s f sh l z f2 sh2 t f3 sh3 (hds hs))) q (by unfold LF;omega),hs1]
   . simp(disch:=apply zq;omega) only[go_sem,simprocAttr,↓Nat.reduceEqDiff,xx,hg]
   . rw[S13];simp(disch:=apply zq;omega) only[go_sem,simprocAttr,↓Nat.reduceEqDiff,xx]
   . exact hs2
   . rw[hs1];rfl
 have st1:=fun i hi=>@z77 gl s z f f2 f3 sh sh2 sh3 l t (d+829) hl h2 ok (hds hs) i hi (g1 i hi)
 have c1:=@zjd gl (d+829) s z f f2 f3 sh sh2 sh3 l t (hds hs) (by omega) h2 (by omega) ok ok' l.length (wB _)
 rw[wE (show(fs l).length<=l.length by rw[za4];exact wB _)]at c1
 have c2:=M.rtree_at (gl:=gl) (n:=d+829) (by omega) false (sh:=sB) (l:=fs l) (.inr rfl) (by rw[za4];omega) (zdp ok)
 rw[za4]at c2
 obtain⟨f5,s5,e5,k5⟩:=M.pv8_eq (fs l) l.length
 rw[e5]at c2
 have c3:=@M.same_dec gl (d+829) (by omega) f5 f2 s5 sh2 (P8 (fs l) l.length) t (M.P8_all _ _ (by rw[za4];exact wB _) (zdp ok)) ha k5 h4 (by have:=M.P8_le (fs l) (by rw[za4];omega) (k:=l.length) (by rw[za4];exact wB _);omega) (by omega)
 have st2:=fun k hk hv=>@z9r gl s z f f2 f3 sh sh2 sh3 l t hs _ (d+829) (by omega) hl ok h3 hhl hh k hk hv
 have bd2:=fun k hk hv=>@qhl gl s z f f2 f3 sh sh2 sh3 l t hs _ (d+829) (by omega) hl ok h3 hhl hh k hk hv
 have hP:P8 (fs l) l.length=P8 (fs l) l.length:=rfl
 simp only[L13,m13]at st1
 by_cases g2:z=l.length
 rotate_left
 . refine⟨false,?_,by
    constructor
    . intro h;cases h
    . intro h;exact absurd h.2.2.1.1 g2⟩
   have en:((l.length:Int) != z)=true:=by rw[bne_iff_ne];exact fun e=>g2 e.symm
   generalize P8 (fs l) l.length=p at *
   rw[zad (fd:=fd13) rfl]
   simp(disch:=apply zq;omega) only[go_sem,simprocAttr,↓Nat.reduceEqDiff,xx,fd13,m13,c0,hL]
   rw[zai (S13 (ldAV s f sh l z f2 sh2 t f3 sh3 (hds hs))) l.length (by unfold LF;omega)]
   . rw[S13];simp(disch:=apply zq;omega) only[go_sem,simprocAttr,↓Nat.reduceEqDiff,xx,hL,c1,c2,c3,en]
   . rw[S13];simp(disch:=apply zq;omega) only[go_sem,simprocAttr,↓Nat.reduceEqDiff,xx]
   . exact st1
   . rw[S13];simp(disch:=apply zq;omega) only[go_sem,simprocAttr,↓Nat.reduceEqDiff,xx,hL]
 have en:((l.length:Int) != z)=false:=by rw[g2];exact bne_self_eq_false _
 by_cases g3:P8 (fs l) l.length=t
 rotate_left
 . refine⟨false,?_,by
    constructor
    . intro h;cases h
    . intro h;exact absurd h.2.2.1.2.symm g3⟩
   rw[decide_eq_false g3]at c3
   clear g3
   generalize P8 (fs l) l.length=p at *
   rw[zad (fd:=fd13) rfl]
   simp(disch:=apply zq;omega) only[go_sem,simprocAttr,↓Nat.reduceEqDiff,xx,fd13,m13,c0,hL]
   rw[zai (S13 (ldAV s f sh l z f2 sh2 t f3 sh3 (hds hs))) l.length (by unfold LF;omega)]
   . rw[S13];simp(disch:=apply zq;omega) only[go_sem,simprocAttr,↓Nat.reduceEqDiff,xx,hL,c1,c2,c3,en]
   . rw[S13];simp(disch:=apply zq;omega) only[go_sem,simprocAttr,↓Nat.reduceEqDiff,xx]
   . exact st1
   . rw[S13];simp(disch:=apply zq;omega) only[go_sem,simprocAttr,↓Nat.reduceEqDiff,xx,hL]
 rw[decide_eq_true g3]at c3
 rcases zb8 (fun i=>HV s l hs i) hs.length with g4|⟨q,hq,hb',he⟩
 . refine⟨true,?_,by
    constructor
    . intro _;exact⟨g0,g1,⟨g2,g3.symm⟩,g4⟩
    . intro _;rfl⟩
   have st2:=fun k hk=>st2 k hk (g4 k hk)
   simp only[L13b,m13]at st2
   clear g3 bd2
   generalize P8 (fs l) l.length=p at *
   rw[zad (fd:=fd13) rfl]
   simp(disch:=apply zq;omega) only[go_sem,simprocAttr,↓Nat.reduceEqDiff,xx,fd13,m13,c0,hL]
   rw[zai (S13 (ldAV s f sh l z f2 sh2 t f3 sh3 (hds hs))) l.length (by unfold LF;omega)]
   . rw[S13];simp(disch:=apply zq;omega) only[go_sem,simprocAttr,↓Nat.reduceEqDiff,xx,hL,c1,c2,c3,en]
     rw[zai (S13b (ldAV s f sh l z f2 sh2 t f3 sh3 (hds hs)) (fs l)) hs.length (by unfold LF;omega)]
     . rw[S13b];simp(disch:=apply zq;omega) only[go_sem,simprocAttr,↓Nat.reduceEqDiff,xx,hLh]
     . rw[S13b];simp(disch:=apply zq;omega) only[go_sem,simprocAttr,↓Nat.reduceEqDiff,xx]
     . exact st2
     . rw[S13b];simp(disch:=apply zq;omega) only[go_sem,simprocAttr,↓Nat.reduceEqDiff,xx,hLh]
   . rw[S13];simp(disch:=apply zq;omega) only[go_sem,simprocAttr,↓Nat.reduceEqDiff,xx]
   . exact st1
   . rw[S13];simp(disch:=apply zq;omega) only[go_sem,simprocAttr,↓Nat.reduceEqDiff,xx,hL]
 . refine⟨false,?_,by
    constructor
    . intro h;cases h
    . intro h;exact absurd (h.2.2.2 q hq) he⟩
   obtain⟨st,hs1,hg⟩:=zc9 (bd2 q hq he)
   have st2:=fun k (hk:k<q)=>st2 k (by omega) (hb' k hk)
   simp only[L13b,m13,↓out16_eq]at st2 hs1
   clear g3 bd2
   generalize P8 (fs l) l.length=p at *
   rw[zad (fd:=fd13) rfl]
   simp(disch:=apply zq;omega) only[go_sem,simprocAttr,↓Nat.reduceEqDiff,xx,fd13,m13,↓out16_eq,H.oo,c0,hL]
   rw[zai (S13 (ldAV s f sh l z f2 sh2 t f3 sh3 (hds hs))) l.length (by unfold LF;omega)]
   . rw[S13];simp(disch:=apply zq;omega) only[go_sem,simprocAttr,↓Nat.reduceEqDiff,xx,↓out16_eq,H.oo,hL,c1,c2,c3,en]
     rw[zai (S13b (ldAV s f sh l z f2 sh2 t f3 sh3 (hds hs)) (fs l)) q (by unfold LF;omega),hs1]
     . simp(disch:=apply zq;omega) only[go_sem,simprocAttr,↓Nat.reduceEqDiff,xx,hg]
     . rw[S13b];simp(disch:=apply zq;omega) only[go_sem,simprocAttr,↓Nat.reduceEqDiff,xx]
     . exact st2
     . rw[hs1];rfl
   . rw[S13];simp(disch:=apply zq;omega) only[go_sem,simprocAttr,↓Nat.reduceEqDiff,xx]
   . exact st1
   . rw[S13];simp(disch:=apply zq;omega) only[go_sem,simprocAttr,↓Nat.reduceEqDiff,xx,hL]
end
end Go.Proofs.S44.L
namespace Go.Proofs.S44.L
open Go Go.Ev Go.Proofs Go.Proofs.S44
open Go.Proofs.S44.H (strsAV zaa zal Sml GlK GlR zaj nsI)
variable {gl :Gl} {n:Nat}
theorem zz6 (h:6<=n){x:Cd}(hx:CdOk x):call gl tab n 82 [z7s true x] []=some (.lst false .sc (strsAV (cdP x)),[],[]):=by
 obtain⟨d,rfl⟩:=wA h
 have c1:=@zgl gl (d+5) (by omega) false _ hx.i
 have c2:=@zjp gl (d+5) (by omega) true x.cl hx.cl
 have c3:=@zjp gl (d+5) (by omega) true x.co hx.co
 have c4:=@zgl gl (d+5) (by omega) true _ hx.si
 have e5:nsI [x.fr,x.to,x.us]=[i64 x.fr,i64 x.to,i64 x.us]:=rfl
 have e:strsAV (cdP x)=[.str (zaj [x.fr,x.to,x.us]),.str x.pat,.str (zbd x.cl),.str (zbd x.co),.str (zaj x.si)]:=rfl
 rw[e]
 rw[e5]at c1
 generalize zaj [x.fr,x.to,x.us]=z1 at *
 generalize zbd x.cl=z2 at *
 generalize zbd x.co=z3 at *
 generalize zaj x.si=z4 at *
 rw[zad (fd:=fd82) rfl]
 simp(disch:=apply zq;omega) only[go_sem,simprocAttr,↓Nat.reduceEqDiff,xx,fd82,m82,c1,c2,c3,c4]
def S270 (x:Re)(q:List (List UInt8))(i:Nat):St:=⟨[.set 5 (i64 i),.set 4 (.sl 5004 [] 0 q.length),.set 3 (i64 0),.set 1 (.ptr 1 [])],[(1,.fix sRe (zo8 x)),(5004,gw q)]⟩
def z70 (x:Re)(q:List (List UInt8))(i:Nat):St:=⟨[.set 6 (i64 i),.set 4 (.sl 5004 [] 0 q.length),.set 3 (i64 0),.set 1 (.ptr 1 [])],[(1,.fix sRe (zo8 x)),(5004,gw q)]⟩
def z7z (x:Re)(q:List (List UInt8))(i:Nat):St:=⟨[.set 8 (i64 i),.set 7 (.ptr 7 []),.set 4 (.sl 5004 [] 0 q.length),.set 1 (.ptr 1 [])],[(7,.fix sRl (z4b x.rl)),(1,.fix sRe (zo8 x)),(5004,gw q)]⟩
theorem zwt (h:9<=n){x:Re}(hx:ReOk x)(n1:x.hs=[])(n2:x.tk.cs=[])(n3:x.rl.tg=[])(n4:x.rl.vy=[])(n5:x.rl.sg=false):call gl tab n 27 [zo8 x] []=some (.lst false .sc (strsAV (reP x)),[],[]):=by
 obtain⟨d,rfl⟩:=wA h
 have c1:=@zgl gl (d+8) (by omega) false _ hx.i
 have c2:=@zgl gl (d+8) (by omega) false _ hx.a
 have c3:=@zgl gl (d+8) (by omega) false _ hx.t.i
 have c4:=@zgl gl (d+8) (by omega) false _ hx.r.i
 have c5:=@zz6 gl (d+8) (by omega) _ hx.r.a
 have c6:=@zzs gl (d+8) (by omega) _ hx.s
 have c7:=@zz2 gl (d+8) (by omega) _ hx.l
 have e4:strsAV (p1 x)=[.str (zaj (nmS x)),.str x.dat,.str x.pol,.str x.ad,.str x.cl,.str x.co,.str (zaj [x.sx,x.lo,x.hi])]:=rfl
 have p4:(p1 x).length=7:=rfl
 have e5:nsI (nmS x)=[i64 x.site,i64 x.seq,i64 x.mo,i64 x.fr,i64 x.to,i64 x.he,i64 x.ca,i64 x.us,i64 x.hs.length,i64 x.tk.cs.length,i64 x.rl.tg.length,i64 x.rl.vy.length]:=rfl
 have e6:nsI [x.sx,x.lo,x.hi]=[i64 x.sx,i64 x.lo,i64 x.hi]:=rfl
 have e7:nsI [x.tk.cu,x.tk.se]=[i64 x.tk.cu,i64 x.tk.se]:=rfl
 have e8:nsI [x.rl.fr,x.rl.sl,x.rl.dn,x.rl.ng,fl x.rl.sg,x.rl.co]=[i64 x.rl.fr,i64 x.rl.sl,i64 x.rl.dn,i64 x.rl.ng,i64 0,i64 x.rl.co]:=by rw[n5];rfl
 rw[n1,n2,n3,n4]at e5
 replace e5:nsI (nmS x)=[i64 x.site,i64 x.seq,i64 x.mo,i64 x.fr,i64 x.to,i64 x.he,i64 x.ca,i64 x.us,i64 0,i64 0,i64 0,i64 0]:=e5
 rw[e5]at c1
 rw[e6]at c2
 rw[e7]at c3
 rw[e8]at c4
 have u1:=b16 hx.d
 have u2:=b16 hx.p
 have u3:=b16 hx.t.s
 have u4:=b16 hx.s.r
 have u5:=b16 hx.s.s
 have u6:=b16 hx.l.s
 have t1:=b16t hx.d
 have t2:=b16t hx.p
 have t3:=b16t hx.t.s
 have t5:=b16t hx.s.s
 have t6:=b16t hx.l.s
 have w1:=H.bytes_all x.dat
 have w2:=H.bytes_all x.pol
 have w3:=H.bytes_all x.tk.sgn
 have w4:=H.bytes_all x.sp.body
 have w5:=H.bytes_all x.sp.sgn
 have w6:=H.bytes_all x.le.sgn
 have er:reP x=p1 x++[zaj [x.tk.cu,x.tk.se],x.tk.id,x.tk.sgn]++[x.rl.nm,x.rl.pat,x.rl.pr,zaj [x.rl.fr,x.rl.sl,x.rl.dn,x.rl.ng,fl x.rl.sg,x.rl.co]]++cdP x.rl.al++spP x.sp++[x.sp.sgn]++leP x.le++[x.le.sgn]:=by
  simp[reP,tkP,rlP,n1,n2,n3,n4,z5i,z7k,z3p]
 rw[er]
 have lc5:(cdP x.rl.al).length=5:=rfl
 have lc6:(spP x.sp).length=5:=rfl
 have lc7:(leP x.le).length=1:=rfl
 rw[zad (fd:=fd27) rfl]
 obtain⟨qa,hqa⟩:∃q,q=p1 x:=⟨_,rfl⟩
 obtain⟨qb,hqb⟩:∃q,q=qa++[zaj [x.tk.cu,x.tk.se],x.tk.id,x.tk.sgn]:=⟨_,rfl⟩
 obtain⟨qc,hqc⟩:∃q,q=qb++[x.rl.nm,x.rl.pat,x.rl.pr,zaj [x.rl.fr,x.rl.sl,x.rl.dn,x.rl.ng,fl x.rl.sg,x.rl.co]]:=⟨_,rfl⟩
 have ra:qa.length=7:=by rw[hqa];rfl
 have rb:qb.length=10:=by rw[hqb,wD,ra];rfl
 have rc:qc.length=14:=by rw[hqc,wD,rb];rfl
 rw[<-hqa]at e4 ⊢
 rw[<-hqb,<-hqc]
 generalize zaj [x.tk.cu,x.tk.se]=z3 at *
 generalize zaj [x.rl.fr,x.rl.sl,x.rl.dn,x.rl.ng,fl x.rl.sg,x.rl.co]=z4 at *
 generalize zaj (nmS x)=z1 at *
 generalize zaj [x.sx,x.lo,x.hi]=z2 at *
 generalize cdP x.rl.al=z5 at *
 generalize spP x.sp=z6 at *
 generalize leP x.le=z7 at *
 have k1:=zgy (a:=qa.length) (b:=3) (by omega) (by omega)
 have k2:=zgy (a:=qb.length) (b:=4) (by omega) (by omega)
 have k4:=zgy (a:=qc.length) (b:=5) (by omega) (by omega)
 have k5:=zgy (a:=qc.length+5) (b:=5) (by omega) (by omega)
 have k6:=zgy (a:=qc.length+5+5) (b:=1) (by omega) (by omega)
 have k7:=zgy (a:=qc.length+5+5+1) (b:=1) (by omega) (by omega)
 have k8:=zgy (a:=qc.length+5+5+1+1) (b:=1) (by omega) (by omega)
 have k0:=zgy (a:=3) (b:=4) (by omega) (by omega)
 have ta:=wE (l:=strsAV (qc++z5++z6++[x.sp.sgn]++z7++[x.le.sgn])) (i:=qc.length+5+5+1+1+1) (by simp only[zaa,wD,lc5,lc6,lc7,List.length_singleton];omega)
 have ga:gw qa= .grow .sc [.str z1,.str x.dat,.str x.pol,.str x.ad,.str x.cl,.str x.co,.str z2]:=by unfold gw;rw[e4]
 simp(maxSteps:=1000000) (disch:=apply zq;omega) only[go_sem,simprocAttr,↓Nat.reduceEqDiff,xx,fd27,m27,n5,e4,u1,u2,u3,u4,u5,u6,t1,t2,w1,w2,w3,w4,w5,w6,c1,c2,k0]
 rw[zai (fun i=>S270 x qa i) 0 (by unfold LF;omega)]
 rotate_left
 . simp only[S270,ga,ra];simp(disch:=apply zq;omega) only[go_sem,simprocAttr,↓Nat.reduceEqDiff,xx]
 . intro i hi;omega
 . rw[S270];simp(disch:=apply zq;omega) only[go_sem,simprocAttr,↓Nat.reduceEqDiff,xx]
 rw[S270]
 unfold gw
 simp(maxSteps:=1000000) (disch:=apply zq;omega) only[go_sem,simprocAttr,↓Nat.reduceEqDiff,xx,u1,u2,u3,u4,u5,u6,t3,w1,w2,w3,w4,w5,w6,c3,k1,sn3,zaa]
 rw[zai (fun i=>z70 x qb i) 0 (by unfold LF;omega)]
 rotate_left
 . simp only[z70,hqb,gw];simp(disch:=apply zq;omega) only[go_sem,simprocAttr,↓Nat.reduceEqDiff,xx,zaa]
 . intro i hi;omega
 . rw[z70];simp(disch:=apply zq;omega) only[go_sem,simprocAttr,↓Nat.reduceEqDiff,xx]
 rw[z70]
 unfold gw
 simp(maxSteps:=1000000) (disch:=apply zq;omega) only[go_sem,simprocAttr,↓Nat.reduceEqDiff,xx,n5,u1,u2,u3,u4,u5,u6,t3,w1,w2,w3,w4,w5,w6,c4,k2,sn4,sna,zaa]
 rw[zai (fun i=>z7z x qc i) 0 (by unfold LF;omega)]
 rotate_left
 . simp only[z7z,hqc,gw];simp(disch:=apply zq;omega) only[go_sem,simprocAttr,↓Nat.reduceEqDiff,xx,n5,zaa]
 . intro i hi;omega
 . rw[z7z];simp(disch:=apply zq;omega) only[go_sem,simprocAttr,↓Nat.reduceEqDiff,xx,n5]
 rw[z7z]
 unfold gw
 simp(maxSteps:=1000000) (disch:=apply zq;omega) only[go_sem,simprocAttr,↓Nat.reduceEqDiff,xx,n5,u1,u2,u3,u4,u5,u6,t5,t6,w1,w2,w3,w4,w5,w6,c5,c6,c7,k4,k5,k6,k7,k8,sn1,sna,zaa,lc5,lc6,lc7]
 rw[ta]
end Go.Proofs.S44.L
