/-
  Chapter 44: the peaks of a list, and whether two lists of digests are the same. No condition.
-/
import Derived.Test.YtcddalfeicoedaaGreatDoorW44G16x3
import Derived.Test.YtcddalfeicoedaaGreatDoorW44G1x3
import Derived.Test.YtcddalfeicoedaaGreatDoorW44G18x3
set_option linter.all false
open Nat renaming le_refl->wA,exists_eq_add_of_le'->wB,min_eq_left->wC
open List renaming length_take->wD,map_take->wE
open Int renaming toNat_natCast->wF
namespace Go.Proofs.S44.M
open Go Go.Ev Go.Proofs Go.Mk Go.Proofs.S44
open Go.Proofs.S44.H (GlK GlR)
variable {gl :Gl} {n:Nat}
def P8 (l:List Dg)(k:Nat):List Dg:=pk nd em (l.take k)
def R8 (l:List Dg)(k:Nat):Dg:=rt nd em (l.take k)
theorem zt8 (l:List Dg):P8 l 0=[]:=zil
theorem z3c {l:List Dg}{k:Nat}(h:k<=l.length):(P8 l k).length=pcn k:=by
 rw[P8,zz4 _ _ (wA _),wD,wC h]
theorem zz5 :∀(q n:Nat),n<=q->pcn n<=n
 | q,n,h=>by
   by_cases h0:n=0
   . subst h0;rw[pcn_0];omega
   . match q,h with
     | 0,h=>omega
     | q+1,h=>rw[pcn_two];have:=zz5 q (n/2) (by omega);omega
theorem P8_le (l:List Dg)(hl:l.length<=60000){k:Nat}(hk:k<=l.length):(P8 l k).length<=60000:=by
 rw[z3c hk];have:=zz5 _ k (wA _);omega
theorem P8_form {l:List Dg}{k:Nat}(h:k<=l.length)(hl:l.length<=60000):Form k (P8 l k):=⟨by omega,by omega,by rw[z3c h,wF]⟩
theorem P8_next {l:List Dg}{k:Nat}(h:k<l.length):grw k (P8 l k) (dgA l k)=P8 l (k+1):=by
 have hle:tr1 k<=(P8 l k).length:=by rw[z3c (by omega)];exact zqj _ _ (wA _)
 rw[qbq em hle]
 have e:=@qha Dg nd em em _ (l.take k) (dgA l k) (wA _)
 rw[wD,wC (by omega)]at e
 rw[P8,P8,e,List.take_succ_eq_append_getElem h]
 congr 2
 simp[dgA,h]
theorem P8_all :∀(l:List Dg) (k:Nat),k<=l.length->All16 l->All16 (P8 l k)
 | l,0,h,ha=>by rw[zt8];exact All16.nil
 | l,k+1,h,ha=>by
   rw[<-P8_next (by omega),grw]
   exact((P8_all l k (by omega) ha).take _).app (.one (zmv _ (ha.at (by omega))))
theorem R8_len {l:List Dg}(ha:All16 l)(k:Nat):(R8 l k).length=16:=rt_len (ha.take _)
theorem topV8 (l:List Dg)(k:Nat):topV (P8 l k)=R8 l k:=by rw[zuj,P8,qdi _ _ (wA _),R8]
def pv8 (l:List Dg)(k:Nat):AV:=.agg [i64 (k:Int),if k=0 then .lst true .sc []else .lst false sB (dgL (P8 l k))]
theorem pv8_eq (l:List Dg)(k:Nat):∃f sh,pv8 l k=pkAV k f sh (P8 l k)/\Sd (P8 l k) sh sB:=by
 by_cases h:k=0
 . subst h;exact⟨true,.sc,by rw[pv8,if_pos rfl,zt8];rfl,.inl (zt8 l)⟩
 . exact⟨false,sB,by rw[pv8,if_neg h],.inr rfl⟩
theorem pv8_z (l:List Dg):pv8 l 0= .agg [i64 0,.lst true .sc []]:=rfl
theorem pv8_s (l:List Dg)(k:Nat):pv8 l (k+1)= .agg [i64 ((k+1:Nat):Int),.lst false sB (dgL (P8 l (k+1)))]:=rfl
def L50 :MC:=match m50 with| .seq _ (.seq _ (.seq (.seq _ (.block _ (.loop _ b))) _))=>b|_=>.skip
def S50 (f:Bool)(sh:Sh)(l:List Dg)(i:Nat):St:=⟨[.set 4 (i64 i),.set 3 (.ptr 3 []),.set 2 (.ptr 2 []),.set 0 (.lst f sh (dgL l))],[(3,.fix (.st [.sc,.sc]) (pv8 l i)),(2,.fix (.st [.sc,.sc]) (.agg [i64 0,.lst true .sc []]))]⟩
theorem qd0 [Nonempty (GlK gl)][Nonempty (GlR gl)][Nonempty (GlB gl)]{d:Nat}(hd:14<=d)(f:Bool){sh:Sh}{l:List Dg}(hs:Sd l sh sB)(hl:l.length<=60000)(ha:All16 l)(i:Nat)(hi:i<l.length) :
  zbd [.slot 0,.slot 2,.slot 3,.slot 4,.key 2,.key 3] (evC gl (call gl tab d) L50 (S50 f sh l i))=some (S50 f sh l (i+1)):=by
 obtain rfl:sh=sB:=by rcases hs with h0|h0;subst h0;simp at hi;exact h0
 have hL:=dgL_length l
 have hA:=dgL_at hi
 have q1:=ha.at hi
 have q2:=H.bytes_all (dgA l i)
 have nx:=P8_next hi
 obtain⟨f1,s1,e1,k1⟩:=pv8_eq l i
 have c:=rappend_ok (gl:=gl) (n:=d) hd (s:=i) (f:=f1) (sh:=s1) (t:=P8 l i) (leaf:=dgA l i) q1 (by have:=P8_le l hl (k:=i) (by omega);omega) (P8_all l i (by omega) ha) k1 (by omega) (P8_form (by omega) hl)
 rw[<-e1,nx]at c
 obtain⟨u,eu⟩:∃u,pv8 l i= .agg [i64 i,u]:=⟨_,rfl⟩
 have hq:=b16t q1
 rw[S50,S50,pv8_s]
 rw[eu]at c ⊢
 have nn:=dgL_noImms (P8 l (i+1))
 generalize P8 l (i+1)=p at *
 generalize dgA l i=x at *
 simp(disch:=apply zq;omega) only[go_sem,simprocAttr,↓Nat.reduceEqDiff,xx,L50,m50,hL,hA,q1,q2,hq,c,nn,zcb]
theorem rtree_at [Nonempty (GlK gl)][Nonempty (GlR gl)][Nonempty (GlB gl)](h:15<=n)(f:Bool){sh:Sh}{l:List Dg}(hs:Sd l sh sB)(hl:l.length<=60000)(ha:All16 l) :
  call gl tab n 50 [.lst f sh (dgL l)] []=some (pv8 l l.length,[],[]):=by
 obtain⟨d,rfl⟩:=wB h
 have hL:=dgL_length l
 have st:=fun i hi=>qd0 (gl:=gl) (d:=d+14) (by omega) f hs hl ha i hi
 simp only[L50,m50]at st
 obtain⟨u,eu⟩:∃u,pv8 l l.length= .agg [i64 l.length,u]:=⟨_,rfl⟩
 rw[zad (fd:=fd50) rfl]
 simp(disch:=apply zq;omega) only[go_sem,simprocAttr,↓Nat.reduceEqDiff,xx,fd50,m50,hL]
 rw[zag (S50 f sh l) l.length (by unfold LF;omega)]
 . rw[S50,pv8]
   split
   . simp(disch:=apply zq;omega) only[go_sem,simprocAttr,↓Nat.reduceEqDiff,xx,hL]
   . simp(disch:=apply zq;omega) only[go_sem,simprocAttr,↓Nat.reduceEqDiff,xx,hL]
 . rw[S50,pv8_z];simp(disch:=apply zq;omega) only[go_sem,simprocAttr,↓Nat.reduceEqDiff,xx,hL]
 . exact st
 . rw[S50];simp(disch:=apply zq;omega) only[go_sem,simprocAttr,↓Nat.reduceEqDiff,xx,hL]
def L34 :MC:=match m34 with| .seq _ (.seq _ (.seq (.seq _ (.block _ (.loop _ b))) _))=>b|_=>.skip
def S34 (f f':Bool)(k k':Sh)(a b:List Dg)(i:Nat):St:=⟨[.set 5 (i64 i),.set 1 (.lst f' k' (dgL b)),.set 0 (.lst f k (dgL a))],[]⟩
theorem dgs_eq {a b:List Dg}(h:a.length=b.length)(hh:∀i,i<a.length->dgA a i=dgA b i):a=b:=by
 apply List.ext_getElem h
 intro i h1 h2
 have:=hh i h1
 simpa[dgA,h1,h2]using this
theorem same_dec (h:1<=n){f f':Bool}{k k':Sh}{a b:List Dg}(ha:All16 a)(hb:All16 b)(hk:Sd a k sB)(hk':Sd b k' sB)(hl:a.length<=1000000)(hl2:b.length<=1000000) :
  call gl tab n 34 [.lst f k (dgL a),.lst f' k' (dgL b)] []=some (.bool (decide (a=b)),[],[]):=by
 obtain⟨d,rfl⟩:=wB h
 have hL:=dgL_length a
 have hL2:=dgL_length b
 rw[zad (fd:=fd34) rfl]
 by_cases hlen:a.length=b.length
 . have st:∀i,i<a.length->dgA a i=dgA b i->zbd [.slot 0,.slot 1,.slot 5] (evC gl (call gl tab d) L34 (S34 f f' k k' a b i))=some (S34 f f' k k' a b (i+1)):=fun i hi he=>by
    obtain rfl:k=sB:=by rcases hk with h0|h0;subst h0;simp at hi;exact h0
    obtain rfl:k'=sB:=by rcases hk' with h0|h0;(rw[h0]at hlen;simp at hlen;rw[hlen]at hi;simp at hi);exact h0
    have hA:=dgL_at hi
    have hB:=dgL_at (show i<b.length by omega)
    have q1:=ha.at hi
    have q2:=H.bytes_all (dgA a i)
    have e:=eqB q1 q1
    rw[decide_eq_true rfl]at e
    rw[<-he]at hB
    generalize dgA a i=x at *
    rw[S34,S34]
    simp(disch:=apply zq;omega) only[go_sem,simprocAttr,↓Nat.reduceEqDiff,xx,L34,m34,hL,hL2,hA,hB,q1,q2,e,zcb,zab]
   have hf:∀i,i<a.length->¬dgA a i=dgA b i->out1 4 (evC gl (call gl tab d) L34 (S34 f f' k k' a b i))=some (.ret,.bool false):=fun i hi he=>by
    obtain rfl:k=sB:=by rcases hk with h0|h0;subst h0;simp at hi;exact h0
    obtain rfl:k'=sB:=by rcases hk' with h0|h0;(rw[h0]at hlen;simp at hlen;rw[hlen]at hi;simp at hi);exact h0
    have hA:=dgL_at hi
    have hB:=dgL_at (show i<b.length by omega)
    have q1:=ha.at hi
    have q2:=H.bytes_all (dgA a i)
    have q3:=hb.at (show i<b.length by omega)
    have q4:=H.bytes_all (dgA b i)
    have e:=eqB q1 q3
    rw[decide_eq_false he]at e
    generalize dgA a i=x at *
    generalize dgA b i=y at *
    rw[S34]
    simp(disch:=apply zq;omega) only[go_sem,simprocAttr,↓Nat.reduceEqDiff,xx,L34,m34,hL,hL2,hA,hB,q1,q2,q3,q4,e,zcb,zab]
   have hne:((a.length:Int) != (b.length:Int))=false:=by rw[hlen];exact bne_self_eq_false _
   rcases zbv (fun i=>dgA a i=dgA b i) a.length with hA|⟨q,hq,hb',he⟩
   . rw[decide_eq_true (dgs_eq hlen hA)]
     have hs2:=fun i hi=>st i hi (hA i hi)
     simp only[L34,m34]at hs2
     simp(disch:=apply zq;omega) only[go_sem,simprocAttr,↓Nat.reduceEqDiff,xx,fd34,m34,hL,hL2,hne]
     rw[zag (S34 f f' k k' a b) a.length (by unfold LF;omega)]
     . rw[S34];simp(disch:=apply zq;omega) only[go_sem,simprocAttr,↓Nat.reduceEqDiff,xx,hL]
     . rw[S34];simp(disch:=apply zq;omega) only[go_sem,simprocAttr,↓Nat.reduceEqDiff,xx]
     . exact hs2
     . rw[S34];simp(disch:=apply zq;omega) only[go_sem,simprocAttr,↓Nat.reduceEqDiff,xx,hL]
   . rw[decide_eq_false (fun h=>he (by rw[h]))]
     obtain⟨st',hs1,hg⟩:=zcn (hf q hq he)
     have hs2:=fun i (hi:i<q)=>st i (by omega) (hb' i hi)
     simp only[L34,m34]at hs2 hs1
     simp(disch:=apply zq;omega) only[go_sem,simprocAttr,↓Nat.reduceEqDiff,xx,fd34,m34,hL,hL2,hne]
     rw[zag (S34 f f' k k' a b) q (by unfold LF;omega),hs1]
     . simp(disch:=apply zq;omega) only[go_sem,simprocAttr,↓Nat.reduceEqDiff,xx,hg]
     . rw[S34];simp(disch:=apply zq;omega) only[go_sem,simprocAttr,↓Nat.reduceEqDiff,xx]
     . exact hs2
     . rw[hs1];rfl
 . rw[decide_eq_false (fun h=>hlen (by rw[h]))]
   have hne:((a.length:Int) != (b.length:Int))=true:=by rw[bne_iff_ne];omega
   simp(disch:=apply zq;omega) only[go_sem,simprocAttr,↓Nat.reduceEqDiff,xx,fd34,m34,hL,hL2,hne]
end Go.Proofs.S44.M
namespace Go.Proofs.S44.L
open Go Go.Ev Go.Proofs Go.Proofs.S44
open Go.Proofs.S44.H (GlK GlR)
open Go.Proofs.S44.M (Dg dgL dgL_length All16 Sd sB pkAV grw P8 R8)
variable {gl :Gl} {n:Nat}
def HV (s:Int)(l:List Rv)(hs:List Hd)(k:Nat):Prop :=
 (hdat hs k).site=s/\0<=(hdat hs k).size/\(hdat hs k).size<=l.length/\(hdat hs k).root=R8 (fs l) (hdat hs k).size.toNat /\
   (0<k->(hdat hs (k-1)).size<=(hdat hs k).size/\(hdat hs (k-1)).lo<=(hdat hs k).lo)
def RV (s:Int)(l:List Rv)(i:Nat):Prop:=(rat l i).site=s/\(rat l i).seq=i
def VL (s:Int)(l:List Rv)(z:Int)(t:List Dg)(hs:List Hd):Prop :=
 (0<=s/\s<64)/\(∀i,i<l.length->RV s l i)/\(z=l.length/\t=P8 (fs l) l.length)/\∀k,k<hs.length->HV s l hs k
theorem rsite_at (h:1<=n)(a:Int):call gl tab n 48 [i64 a] []=some (.bool (decide (0<=a/\a<64)),[],[]):=by
 obtain⟨d,rfl⟩:=wB h
 rw[zad (fd:=fd48) rfl]
 by_cases h1:0<=a
 . by_cases h2:a<64
   . rw[decide_eq_true ⟨h1,h2⟩];simp(disch:=apply zq;omega) only[go_sem,simprocAttr,↓Nat.reduceEqDiff,xx,fd48,m48]
   . rw[decide_eq_false (fun h=>h2 h.2)];simp(disch:=apply zq;omega) only[go_sem,simprocAttr,↓Nat.reduceEqDiff,xx,fd48,m48]
 . rw[decide_eq_false (fun h=>h1 h.1)];simp(disch:=apply zq;omega) only[go_sem,simprocAttr,↓Nat.reduceEqDiff,xx,fd48,m48]
def L13 :MC:=match m13 with| .seq _ (.seq _ (.seq _ (.seq (.seq _ (.block _ (.loop _ b))) _)))=>b|_=>.skip
def L13b :MC:=match m13 with| .seq _ (.seq _ (.seq _ (.seq _ (.seq _ (.seq _ (.seq _ (.seq (.seq _ (.block _ (.loop _ b))) _)))))))=>b|_=>.skip
def S13 (ld:AV)(i:Nat):St:=⟨[.set 4 (i64 i),.set 1 (.ptr 1 [])],[(1,.fix sLd ld)]⟩
def S13b (ld:AV)(a:List Dg)(i:Nat):St:=⟨[.set 7 (i64 i),.set 5 (.lst false sB (dgL a)),.set 1 (.ptr 1 [])],[(1,.fix sLd ld)]⟩
section
variable {s z:Int} {f f2 f3:Bool} {sh sh2 sh3:Sh} {l:List Rv} {t:List Dg} {hs:List Hd}
theorem z7x {d:Nat}(hl:l.length<=800)(h2:Sr l sh)(ok:∀x∈l,RvOk gl x){U:List AV}(i:Nat)(hi:i<l.length)(hv:RV s l i) :
  zbd [.slot 1,.slot 4,.key 1] (evC gl (call gl tab d) L13 (S13 (ldAV s f sh l z f2 sh2 t f3 sh3 U) i))=some (S13 (ldAV s f sh l z f2 sh2 t f3 sh3 U) (i+1)):=by
 obtain rfl:sh=sRe:=h2.resolve_left (fun e=>by subst e;simp at hi)
 have hx:=zhp hi
 have h1:=(ok _ (zfc hi)).sh
 have hL:=zaz l
 have e1:((rat l i).site != s)=false:=by rw[hv.1];exact bne_self_eq_false _
 have e2:((rat l i).seq != (i:Int))=false:=by rw[hv.2];exact bne_self_eq_false _
 clear hv
 generalize rat l i=y at *
 rw[S13,S13]
 simp(disch:=apply zq;omega) only[go_sem,simprocAttr,↓Nat.reduceEqDiff,xx,L13,m13,hx,hL,h1,e1,e2]
theorem qlz {d:Nat}(hl:l.length<=800)(h2:Sr l sh)(ok:∀x∈l,RvOk gl x){U:List AV}(i:Nat)(hi:i<l.length)(hv:¬RV s l i) :
  out1 2 (evC gl (call gl tab d) L13 (S13 (ldAV s f sh l z f2 sh2 t f3 sh3 U) i))=some (.ret,.bool false):=by
 obtain rfl:sh=sRe:=h2.resolve_left (fun e=>by subst e;simp at hi)
 have hx:=zhp hi
 have h1:=(ok _ (zfc hi)).sh
 have hL:=zaz l
 by_cases q:(rat l i).site=s
 . have e2:((rat l i).seq != (i:Int))=true:=by rw[bne_iff_ne];exact fun e=>hv ⟨q,e⟩
   have e1:((rat l i).site != s)=false:=by rw[q];exact bne_self_eq_false _
   clear hv q
   generalize rat l i=y at *
   rw[S13]
   simp(disch:=apply zq;omega) only[go_sem,simprocAttr,↓Nat.reduceEqDiff,xx,L13,m13,hx,hL,h1,e1,e2]
 . have e1:((rat l i).site != s)=true:=by rw[bne_iff_ne];exact q
   clear hv q
   generalize rat l i=y at *
   rw[S13]
   simp(disch:=apply zq;omega) only[go_sem,simprocAttr,↓Nat.reduceEqDiff,xx,L13,m13,hx,hL,h1,e1]
variable [Nonempty (GlR gl)]
theorem z9j {d:Nat}(hd:820<=d)(hl:l.length<=800)(ok:∀x∈l,RvOk gl x)(h3:hs=[]\/sh3=sHd)(hhl:hs.length<=60000)(hh:∀y∈hs,HdOk y)(k:Nat)(hk:k<hs.length)(hv:HV s l hs k) :
  zbd [.slot 1,.slot 5,.slot 7,.key 1] (evC gl (call gl tab d) L13b (S13b (ldAV s f sh l z f2 sh2 t f3 sh3 (hds hs)) (fs l) k))=some (S13b (ldAV s f sh l z f2 sh2 t f3 sh3 (hds hs)) (fs l) (k+1)):=by
 obtain rfl:sh3=sHd:=h3.resolve_left (fun e=>by subst e;simp at hk)
 have hL:=dgL_length (fs l)
 rw[zan]at hL
 have hLh:=zbf hs
 have hy:=zeu hk
 have oy:=hh _ (zco hk)
 obtain⟨v1,v2,v3,v4,v5⟩:=hv
 obtain⟨m,hm⟩:∃m:Nat,(hdat hs k).size=(m:Int):=⟨(hdat hs k).size.toNat,by omega⟩
 rw[hm,wF]at v4
 have c:=M.rroot_at (gl:=gl) 800 (n:=d) ((fs l).take m) false sB (by rw[wD,zan];omega) (by omega) ((zcp ok).take _) (by rw[wD,zan];omega) (.inr rfl)
 have htk:List.take m (dgL (fs l))=dgL ((fs l).take m):=by simp[M.dgL,wE]
 have e1:((hdat hs k).site != s)=false:=by rw[v1];exact bne_self_eq_false _
 have er:(hdat hs k).root=Mk.rt M.nd M.em ((fs l).take m):=v4
 rw[<-er]at c
 have q1:=oy.r
 have q2:=oy.s
 have w1:=H.bytes_all (hdat hs k).root
 have w2:=H.bytes_all (hdat hs k).sgn
 have eB:=eqB q1 q1
 rw[decide_eq_true rfl]at eB
 have u1:=b16 q1
 have u2:=b16 q2
 clear er v4 oy v1
 rw[hm]at v2 v3 v5
 rw[S13b,S13b]
 by_cases k0:k=0
 . subst k0
   generalize hdat hs 0=y at *
   simp(disch:=apply zq;omega) only[go_sem,simprocAttr,↓Nat.reduceEqDiff,xx,L13b,m13,↓out16_eq,H.oo,hL,hLh,hy,hm,htk,c,e1,q1,q2,u1,u2,w1,w2,eB]
 . obtain⟨v6,v7⟩:=v5 (by omega)
   have hy':=zeu (l:=hs) (i:=k-1) (by omega)
   have ek:((k:Int)-1)=((k-1:Nat):Int):=by omega
   clear v5
   generalize hdat hs k=y at *
   generalize hdat hs (k-1)=x at *
   simp(disch:=apply zq;omega) only[go_sem,simprocAttr,↓Nat.reduceEqDiff,xx,L13b,m13,↓out16_eq,H.oo,hL,hLh,hy,hy',hm,ek,htk,c,e1,q1,q2,u1,u2,w1,w2,eB]
theorem qg8 {d:Nat}(hd:820<=d)(hl:l.length<=800)(ok:∀x∈l,RvOk gl x)(h3:hs=[]\/sh3=sHd)(hhl:hs.length<=60000)(hh:∀y∈hs,HdOk y)(k:Nat)(hk:k<hs.length)(hv:¬HV s l hs k) :
  out1 2 (evC gl (call gl tab d) L13b (S13b (ldAV s f sh l z f2 sh2 t f3 sh3 (hds hs)) (fs l) k))=some (.ret,.bool false):=by
 obtain rfl:sh3=sHd:=h3.resolve_left (fun e=>by subst e;simp at hk)
 have hL:=dgL_length (fs l)
 rw[zan]at hL
 have hLh:=zbf hs
 have hy:=zeu hk
 have oy:=hh _ (zco hk)
 have q1:=oy.r
 have q2:=oy.s
 have w1:=H.bytes_all (hdat hs k).root
 have w2:=H.bytes_all (hdat hs k).sgn
 have u1:=b16 q1
 have u2:=b16 q2
 clear oy
 rw[S13b]
 by_cases v1:(hdat hs k).site=s
 rotate_left
 . have e1:((hdat hs k).site != s)=true:=by rw[bne_iff_ne];exact v1
   clear hv v1
   generalize hdat hs k=y at *
   simp(disch:=apply zq;omega) only[go_sem,simprocAttr,↓Nat.reduceEqDiff,xx,L13b,m13,↓out16_eq,H.oo,hL,hLh,hy,e1,q1,q2,u1,u2,w1,w2]
 have e1:((hdat hs k).site != s)=false:=by rw[v1];exact bne_self_eq_false _
 by_cases v2:0<=(hdat hs k).size
 rotate_left
 . clear hv v1
   generalize hdat hs k=y at *
   simp(disch:=apply zq;omega) only[go_sem,simprocAttr,↓Nat.reduceEqDiff,xx,L13b,m13,↓out16_eq,H.oo,hL,hLh,hy,e1,q1,q2,u1,u2,w1,w2]
 by_cases v3:(hdat hs k).size<=l.length
 rotate_left
 . clear hv v1
   generalize hdat hs k=y at *
   simp(disch:=apply zq;omega) only[go_sem,simprocAttr,↓Nat.reduceEqDiff,xx,L13b,m13,↓out16_eq,H.oo,hL,hLh,hy,e1,q1,q2,u1,u2,w1,w2]
 obtain⟨m,hm⟩:∃m:Nat,(hdat hs k).size=(m:Int):=⟨(hdat hs k).size.toNat,by omega⟩
 have c:=M.rroot_at (gl:=gl) 800 (n:=d) ((fs l).take m) false sB (by rw[wD,zan];omega) (by omega) ((zcp ok).take _) (by rw[wD,zan];omega) (.inr rfl)
 have htk:List.take m (dgL (fs l))=dgL ((fs l).take m):=by simp[M.dgL,wE]
 have q3:(Mk.rt M.nd M.em ((fs l).take m)).length=16:=M.rt_len ((zcp ok).take _)
 have eB:=eqB q1 q3
 have hR:R8 (fs l) (hdat hs k).size.toNat=Mk.rt M.nd M.em ((fs l).take m):=by rw[hm,wF,R8]
 have u3:=b16 q3
 have w3:=H.bytes_all (Mk.rt M.nd M.em ((fs l).take m))
 by_cases v4:(hdat hs k).root=Mk.rt M.nd M.em ((fs l).take m)
 rotate_left
 . rw[decide_eq_false v4]at eB
   clear hv v1 v4 hR
   rw[hm]at v2 v3
   generalize Mk.rt M.nd M.em ((fs l).take m)=r at *
   generalize hdat hs k=y at *
   simp(disch:=apply zq;omega) only[go_sem,simprocAttr,↓Nat.reduceEqDiff,xx,L13b,m13,↓out16_eq,H.oo,hL,hLh,hy,hm,htk,c,e1,q1,q2,q3,u1,u2,u3,w1,w2,w3,eB]
 rw[decide_eq_true v4]at eB
 have k0:0<k:=by
  by_cases k0:0<k
  . exact k0
  . exact absurd ⟨v1,v2,v3,by rw[hR];exact v4,fun h=>absurd h k0⟩ hv
 have hy':=zeu (l:=hs) (i:=k-1) (by omega)
 have ek:((k:Int)-1)=((k-1:Nat):Int):=by omega
 have v5:¬((hdat hs (k-1)).size<=(m:Int)/\(hdat hs (k-1)).lo<=(hdat hs k).lo):=fun h=>hv ⟨v1,v2,v3,by rw[hR];exact v4,fun _=>by rw[hm];exact h⟩
 clear hv v1 v4 hR
 rw[hm]at v2 v3
 generalize Mk.rt M.nd M.em ((fs l).take m)=r at *
 generalize hdat hs k=y at *
 generalize hdat hs (k-1)=x at *
 by_cases v6:x.size<=(m:Int)
 . have v7:¬x.lo<=y.lo:=fun h=>v5 ⟨v6,h⟩
   clear v5
   simp(disch:=apply zq;omega) only[go_sem,simprocAttr,↓Nat.reduceEqDiff,xx,L13b,m13,↓out16_eq,H.oo,hL,hLh,hy,hy',hm,ek,htk,c,e1,q1,q2,q3,u1,u2,u3,w1,w2,w3,eB]
 . clear v5
   simp(disch:=apply zq;omega) only[go_sem,simprocAttr,↓Nat.reduceEqDiff,xx,L13b,m13,↓out16_eq,H.oo,hL,hLh,hy,hy',hm,ek,htk,c,e1,q1,q2,q3,u1,u2,u3,w1,w2,w3,eB]
theorem rvalid_at [Nonempty (GlK gl)][Nonempty (M.GlB gl)](h:830<=n)(h2:Sr l sh)(hl:l.length<=800)(ok:∀x∈l,RvOk gl x)(ok':∀x∈l,RvR gl x)(hz:-9223372036854775808<=z/\z<=9223372036854775807)(ht:t.length<=60000)(ha:All16 t)(h4:Sd t sh2 sB)
  (h3:hs=[]\/sh3=sHd) (hhl:hs.length<=60000) (hh:∀y∈hs,HdOk y) :
  ∃b:Bool,call gl tab n 13 [ldAV s f sh l z f2 sh2 t f3 sh3 (hds hs)] []=some (.bool b,[],[])/\(b=true↔VL s l z t hs):=by
 obtain⟨d,rfl⟩:=wB h
 have c0:=@rsite_at gl (d+829) (by omega) s
 have hL:=zaz l
 have hLh:=zbf hs
 by_cases g0:0<=s/\s<64
 rotate_left
 . refine⟨false,?_,by simp only[VL,g0,false_and,Bool.false_eq_true]⟩
   rw[decide_eq_false g0]at c0
   rw[zad (fd:=fd13) rfl]
   simp(disch:=apply zq;omega) only[go_sem,simprocAttr,↓Nat.reduceEqDiff,xx,fd13,m13,c0]
 rw[decide_eq_true g0]at c0
 have n0:¬l.length>65536:=by omega
 rcases zbv (fun i=>RV s l i) l.length with g1|⟨q,hq,hb',he⟩
 rotate_left
 . refine⟨false,?_,by
    constructor
    . intro h;cases h
    . intro h;exact absurd (h.2.1 q hq) he⟩
   obtain⟨st,hs1,hg⟩:=zcn (@qlz gl s z f f2 f3 sh sh2 sh3 l t (d+829) hl h2 ok (hds hs) q hq he)
   have hs2:=fun i (hi:i<q)=>@z7x gl s z f f2 f3 sh sh2 sh3 l t (d+829) hl h2 ok (hds hs) i (by omega) (hb' i hi)
   simp only[L13,m13]at hs1 hs2
   rw[zad (fd:=fd13) rfl]
   simp(disch:=apply zq;omega) only[go_sem,simprocAttr,↓Nat.reduceEqDiff,xx,fd13,m13,c0,hL]
   rw[zag (S13 (ldAV s f sh l z f2 sh2 t f3 sh3 (hds hs))) q (by unfold LF;omega),hs1]
   . simp(disch:=apply zq;omega) only[go_sem,simprocAttr,↓Nat.reduceEqDiff,xx,hg]
   . rw[S13];simp(disch:=apply zq;omega) only[go_sem,simprocAttr,↓Nat.reduceEqDiff,xx]
   . exact hs2
   . rw[hs1];rfl
 have st1:=fun i hi=>@z7x gl s z f f2 f3 sh sh2 sh3 l t (d+829) hl h2 ok (hds hs) i hi (g1 i hi)
 have c1:=@zng gl (d+829) s z f f2 f3 sh sh2 sh3 l t (hds hs) (by omega) h2 (by omega) ok ok' l.length (wA _)
 rw[List.take_of_length_le (show(fs l).length<=l.length by rw[zan];exact wA _)]at c1
 have c2:=M.rtree_at (gl:=gl) (n:=d+829) (by omega) false (sh:=sB) (l:=fs l) (.inr rfl) (by rw[zan];omega) (zcp ok)
 rw[zan]at c2
 obtain⟨f5,s5,e5,k5⟩:=M.pv8_eq (fs l) l.length
 rw[e5]at c2
 have c3:=@M.same_dec gl (d+829) (by omega) f5 f2 s5 sh2 (P8 (fs l) l.length) t (M.P8_all _ _ (by rw[zan];exact wA _) (zcp ok)) ha k5 h4 (by have:=M.P8_le (fs l) (by rw[zan];omega) (k:=l.length) (by rw[zan];exact wA _);omega) (by omega)
 have st2:=fun k hk hv=>@z9j gl s z f f2 f3 sh sh2 sh3 l t hs _ (d+829) (by omega) hl ok h3 hhl hh k hk hv
 have bd2:=fun k hk hv=>@qg8 gl s z f f2 f3 sh sh2 sh3 l t hs _ (d+829) (by omega) hl ok h3 hhl hh k hk hv
 have hP:P8 (fs l) l.length=P8 (fs l) l.length:=rfl
 simp only[L13,m13]at st1
 by_cases g2:z=l.length
 rotate_left
 . refine⟨false,?_,by
    constructor
    . intro h;cases h
    . intro h;exact absurd h.2.2.1.1 g2⟩
   have en:((l.length:Int) != z)=true:=by rw[bne_iff_ne];exact fun e=>g2 e.symm
   generalize P8 (fs l) l.length=p at *
   rw[zad (fd:=fd13) rfl]
   simp(disch:=apply zq;omega) only[go_sem,simprocAttr,↓Nat.reduceEqDiff,xx,fd13,m13,c0,hL]
   rw[zag (S13 (ldAV s f sh l z f2 sh2 t f3 sh3 (hds hs))) l.length (by unfold LF;omega)]
   . rw[S13];simp(disch:=apply zq;omega) only[go_sem,simprocAttr,↓Nat.reduceEqDiff,xx,hL,c1,c2,c3,en]
   . rw[S13];simp(disch:=apply zq;omega) only[go_sem,simprocAttr,↓Nat.reduceEqDiff,xx]
   . exact st1
   . rw[S13];simp(disch:=apply zq;omega) only[go_sem,simprocAttr,↓Nat.reduceEqDiff,xx,hL]
 have en:((l.length:Int) != z)=false:=by rw[g2];exact bne_self_eq_false _
 by_cases g3:P8 (fs l) l.length=t
 rotate_left
 . refine⟨false,?_,by
    constructor
    . intro h;cases h
    . intro h;exact absurd h.2.2.1.2.symm g3⟩
   rw[decide_eq_false g3]at c3
   clear g3
   generalize P8 (fs l) l.length=p at *
   rw[zad (fd:=fd13) rfl]
   simp(disch:=apply zq;omega) only[go_sem,simprocAttr,↓Nat.reduceEqDiff,xx,fd13,m13,c0,hL]
   rw[zag (S13 (ldAV s f sh l z f2 sh2 t f3 sh3 (hds hs))) l.length (by unfold LF;omega)]
   . rw[S13];simp(disch:=apply zq;omega) only[go_sem,simprocAttr,↓Nat.reduceEqDiff,xx,hL,c1,c2,c3,en]
   . rw[S13];simp(disch:=apply zq;omega) only[go_sem,simprocAttr,↓Nat.reduceEqDiff,xx]
   . exact st1
   . rw[S13];simp(disch:=apply zq;omega) only[go_sem,simprocAttr,↓Nat.reduceEqDiff,xx,hL]
 rw[decide_eq_true g3]at c3
 rcases zbv (fun i=>HV s l hs i) hs.length with g4|⟨q,hq,hb',he⟩
 . refine⟨true,?_,by
    constructor
    . intro _;exact⟨g0,g1,⟨g2,g3.symm⟩,g4⟩
    . intro _;rfl⟩
   have st2:=fun k hk=>st2 k hk (g4 k hk)
   simp only[L13b,m13]at st2
   clear g3 bd2
   generalize P8 (fs l) l.length=p at *
   rw[zad (fd:=fd13) rfl]
   simp(disch:=apply zq;omega) only[go_sem,simprocAttr,↓Nat.reduceEqDiff,xx,fd13,m13,c0,hL]
   rw[zag (S13 (ldAV s f sh l z f2 sh2 t f3 sh3 (hds hs))) l.length (by unfold LF;omega)]
   . rw[S13];simp(disch:=apply zq;omega) only[go_sem,simprocAttr,↓Nat.reduceEqDiff,xx,hL,c1,c2,c3,en]
     rw[zag (S13b (ldAV s f sh l z f2 sh2 t f3 sh3 (hds hs)) (fs l)) hs.length (by unfold LF;omega)]
     . rw[S13b];simp(disch:=apply zq;omega) only[go_sem,simprocAttr,↓Nat.reduceEqDiff,xx,hLh]
     . rw[S13b];simp(disch:=apply zq;omega) only[go_sem,simprocAttr,↓Nat.reduceEqDiff,xx]
     . exact st2
     . rw[S13b];simp(disch:=apply zq;omega) only[go_sem,simprocAttr,↓Nat.reduceEqDiff,xx,hLh]
   . rw[S13];simp(disch:=apply zq;omega) only[go_sem,simprocAttr,↓Nat.reduceEqDiff,xx]
   . exact st1
   . rw[S13];simp(disch:=apply zq;omega) only[go_sem,simprocAttr,↓Nat.reduceEqDiff,xx,hL]
 . refine⟨false,?_,by
    constructor
    . intro h;cases h
    . intro h;exact absurd (h.2.2.2 q hq) he⟩
   obtain⟨st,hs1,hg⟩:=zcn (bd2 q hq he)
   have st2:=fun k (hk:k<q)=>st2 k (by omega) (hb' k hk)
   simp only[L13b,m13,↓out16_eq]at st2 hs1
   clear g3 bd2
   generalize P8 (fs l) l.length=p at *
   rw[zad (fd:=fd13) rfl]
   simp(disch:=apply zq;omega) only[go_sem,simprocAttr,↓Nat.reduceEqDiff,xx,fd13,m13,↓out16_eq,H.oo,c0,hL]
   rw[zag (S13 (ldAV s f sh l z f2 sh2 t f3 sh3 (hds hs))) l.length (by unfold LF;omega)]
   . rw[S13];simp(disch:=apply zq;omega) only[go_sem,simprocAttr,↓Nat.reduceEqDiff,xx,↓out16_eq,H.oo,hL,c1,c2,c3,en]
     rw[zag (S13b (ldAV s f sh l z f2 sh2 t f3 sh3 (hds hs)) (fs l)) q (by unfold LF;omega),hs1]
     . simp(disch:=apply zq;omega) only[go_sem,simprocAttr,↓Nat.reduceEqDiff,xx,hg]
     . rw[S13b];simp(disch:=apply zq;omega) only[go_sem,simprocAttr,↓Nat.reduceEqDiff,xx]
     . exact st2
     . rw[hs1];rfl
   . rw[S13];simp(disch:=apply zq;omega) only[go_sem,simprocAttr,↓Nat.reduceEqDiff,xx]
   . exact st1
   . rw[S13];simp(disch:=apply zq;omega) only[go_sem,simprocAttr,↓Nat.reduceEqDiff,xx,hL]
end
end Go.Proofs.S44.L
