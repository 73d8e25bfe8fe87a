/-
  Chapter 44: a ledger of given replies. No condition.
-/
import Derived.Test.YtcddalfeicoedaaDoorW94G21x3
import Derived.Test.YtcddalfeicoedaaDoorW94G20x3
set_option linter.all false
open List renaming getD_eq_getElem?_getD->wA,getElem?_eq_getElem->wB,length_take->wC,map_take->wD
open Int renaming toNat_natCast->wE
namespace Go.Proofs.S94.L
open Go Go.Ev Go.Proofs Go.Proofs.S94
open Go.Proofs.S94.H (strsAV zaa zaj Sml GlK GlR)
open Go.Proofs.S94.M (lf zcx Dg dgL dgL_length All16 Sd sB pkAV grw P8 R8 pv8)
variable {gl :Gl} {n:Nat}
def at7 (y:Re)(k:Nat):Re:={y with site:=7,seq:=k}
theorem qhk {y:Re}(h:ReR y){k:Nat}(hk:k<=1000):ReR (at7 y k) :=
 {h with i:=⟨⟨by show R64 7;unfold R64;omega,by show R64 (k:Int);unfold R64;omega,h.i.1.2.2⟩,h.i.2⟩}
theorem qat {y:Re}(h:ReS y)(k:Nat):ReS (at7 y k):={h with h:=h.h}
def reat (r:List Re)(k:Nat):Re:=r.getD k zR0
theorem zkf {r:List Re}{k:Nat}(h:k<r.length):reat r k∈r:=by
 rw[reat,wA,wB h];exact List.getElem_mem h
theorem zud {r:List Re}{k:Nat}(h:k<r.length):rat (r.map toRv) k=toRv (reat r k):=by
 rw[rat,reat,wA,wA,List.getElem?_map,wB h];rfl
def ws (r:List Re):Nat->List Rv
 | 0=>[]
 | k+1=>ws r k++[toRv (at7 (reat r k) k)]
theorem ws_s (r:List Re)(k:Nat):ws r (k+1)=ws r k++[toRv (at7 (reat r k) k)]:=rfl
theorem zbd (r:List Re):∀k,(ws r k).length=k
 | 0=>rfl
 | k+1=>by rw[ws_s,List.length_append,zbd r k];rfl
theorem z63 (r:List Re):∀k i,i<k->rat (ws r k) i=toRv (at7 (reat r i) i)
 | 0,i,h=>by omega
 | k+1,i,h=>by
   by_cases h1:i<k
   . rw[ws_s,zy8 (by rw[zbd];exact h1)];exact z63 r k i h1
   . obtain rfl:i=k:=by omega
     have e:=zue (ws r i) (toRv (at7 (reat r i) i))
     rw[zbd]at e
     rw[ws_s];exact e
theorem zr2 (r:List Re):∀k m,k<=m->(ws r m).take k=ws r k
 | k,0,h=>by
    obtain rfl:k=0:=by omega
    rfl
 | k,m+1,h=>by
   by_cases h1:k<=m
   . rw[ws_s,List.take_append_of_le_length (by rw[zbd];exact h1)];exact zr2 r k m h1
   . obtain rfl:k=m+1:=by omega
     exact List.take_of_length_le (by rw[zbd];exact Nat.le_refl _)
structure RsOk (r:List Re)(k:Nat):Prop where
 l:k<=1000
 n:k<=r.length
 s:∀i,i<k->ReS (reat r i)
 r:∀y∈r,ReR y
theorem RsOk.mem {r:List Re}:∀{k:Nat},RsOk r k->∀x∈ws r k,∃i,i<k/\x=toRv (at7 (reat r i) i)
 | 0,_,x,hx=>by simp[ws]at hx
 | k+1,h,x,hx=>by
   rw[ws_s]at hx
   rcases List.mem_append.1 hx with h1|h1
   . obtain⟨i,hi,e⟩:=RsOk.mem (k:=k) ⟨by have:=h.l;omega,by have:=h.n;omega,fun i hi=>h.s i (by omega),h.r⟩ x h1
     exact⟨i,by omega,e⟩
   . exact⟨k,by omega,List.mem_singleton.1 h1⟩
section
variable {r :List Re} {k:Nat}
theorem RsOk.R (h:RsOk r k){i:Nat}(hi:i<k):ReR (at7 (reat r i) i):=qhk (h.r _ (zkf (by have:=h.n;omega))) (by have:=h.l;omega)
theorem RsOk.ok [Nonempty (GlK gl)](h:RsOk r k):∀x∈ws r k,RvOk gl x:=fun x hx=>by
 obtain⟨i,hi,rfl⟩:=h.mem x hx
 exact zn8 (h.R hi) (qat (h.s i hi) i)
theorem RsOk.all16 (h:RsOk r k):All16 (fs (ws r k)):=fun y hy=>by
 obtain⟨x,hx,rfl⟩:=List.mem_map.1 hy
 obtain⟨i,hi,rfl⟩:=h.mem x hx
 exact zii _
end
def wl (r:List Re):Nat->AV
 | 0=>.lst true .sc []
 | k+1=>.lst false sRe (rvs (ws r (k+1)))
def wt (r:List Re):Nat->AV
 | 0=>.lst true .sc []
 | k+1=>.lst false sB (dgL (P8 (fs (ws r (k+1))) (k+1)))
theorem z20 (r:List Re)(k:Nat):∃f sh,wl r k= .lst f sh (rvs (ws r k))/\Sr (ws r k) sh:=by
 cases k with
 | zero=>exact⟨true,.sc,rfl,.inl rfl⟩
 | succ k=>exact⟨false,sRe,rfl,.inr rfl⟩
theorem z2x (r:List Re)(k:Nat):∃f sh,wt r k= .lst f sh (dgL (P8 (fs (ws r k)) k))/\Sd (P8 (fs (ws r k)) k) sh sB:=by
 cases k with
 | zero=>exact⟨true,.sc,by rw[M.P8_zero];rfl,.inl (M.P8_zero _)⟩
 | succ k=>exact⟨false,sB,rfl,.inr rfl⟩
theorem grow_at [Nonempty (GlK gl)][Nonempty (M.GlB gl)](h:15<=n){r:List Re}{k:Nat}(o:RsOk r (k+1))(f3:Bool)(sh3:Sh)(U:List AV) :
  call gl tab n 7 [.agg [i64 7,wl r k,.agg [i64 k,wt r k],.lst f3 sh3 U],rvAV (toRv (at7 (reat r k) k))] [] =
   some (.tup [.agg [i64 7,wl r (k+1),.agg [i64 (k+1:Nat),wt r (k+1)],.lst f3 sh3 U],i64 0],[],[]):=by
 obtain⟨f,sh,e1,h1⟩:=z20 r k
 obtain⟨f2,sh2,e2,h2⟩:=z2x r k
 have o':RsOk r k:=⟨by have:=o.l;omega,by have:=o.n;omega,fun i hi=>o.s i (by omega),o.r⟩
 have hl:=zbd r k
 have hk:=o.l
 have lt:(P8 (fs (ws r k)) k).length<=60000:=M.P8_le _ (by rw[zas];omega) (by rw[zas];omega)
 have c:=@z6x gl n 7 f f2 f3 sh sh2 sh3 (ws r k) (P8 (fs (ws r k)) k) U _ _ h k (toRv (at7 (reat r k) k)) (zn8 (o.R (by omega)) (qat (o.s k (by omega)) k)) (by omega) h1 rfl (by rw[hl];rfl) (by omega)
  (M.P8_all _ _ (by rw[zas];omega) o'.all16) h2 (by omega) (M.P8_form (by rw[zas];omega) (by rw[zas];omega))
 have e:=zs8 (ws r k) (toRv (at7 (reat r k) k))
 rw[zbd]at e
 rw[e]at c
 rw[e1,e2]
 exact c
theorem qaj {l:List Dg}{i:Nat}(hi:i<l.length)(hl:l.length<=60000):ckI (M.dgA l i) i l.length (Mk.incl M.nd M.em l i) (Mk.rt M.nd M.em l)=true:=by
 obtain⟨h1,h2⟩:=@Mk.incl_ok Dg M.nd M.em M.z16 _ l i (Nat.le_refl _) hi
 have e0:M.dgA l i=l.getD i M.em:=by rw[M.dgA,wA,wA,wB hi];rfl
 rw[ckI,decide_eq_true_eq,wE,wE,e0]
 exact⟨by omega,h1,h2⟩
def k7 :Ky:=⟨1007,1,[115],0,1099511627776⟩
theorem k7_v :VK k7:=⟨by decide,by decide,by decide,by decide,by decide⟩
theorem k7_r :VR [k7]:=⟨by decide,fun i hi=>by
 match i,hi with
 | 0,_=>exact⟨k7_v,fun h=>absurd h (by decide)⟩⟩
theorem zz5 (h:1<=n):call gl tab n 9 [i64 7] []=some (.agg [i64 1007,i64 1,.str [115],i64 0,i64 1099511627776],[],[]):=by
 obtain⟨d,rfl⟩:=Nat.exists_eq_add_of_le' h
 rw[zae (fd:=fd9) rfl]
 simp(disch:=apply zq;omega) only[go_sem,simprocAttr,↓Nat.reduceEqDiff,xx,fd9,m9]
theorem z4p (z:Int)(g:Dg){lo hi:Int}(h:cnt k7 lo hi=true):hdC [k7] (hdS k7 ⟨7,z,g,lo,hi,0,zB⟩)=0:=by
 have e:hdP (hdS k7 ⟨7,z,g,lo,hi,0,zB⟩)=hdP (hdK k7 ⟨7,z,g,lo,hi,0,zB⟩):=rfl
 have fn1:fnK [k7] 1007 1=some k7:=rfl
 rw[hdC,if_pos (show zij (hdS k7 ⟨7,z,g,lo,hi,0,zB⟩).site=true from(by decide:zij (7:Int)=true))]
 show ckE [k7] (1000+7) 1 44 (hdP (hdS k7 ⟨7,z,g,lo,hi,0,zB⟩)) (sea k7.k 44 (hdP (hdK k7 ⟨7,z,g,lo,hi,0,zB⟩))) lo hi=0
 unfold ckE
 rw[show(1000+7:Int)=1007 from rfl,fn1,e]
 simp only
 rw[if_pos h,if_pos trivial]
end Go.Proofs.S94.L
namespace Go.Proofs.S94.L
open Go Go.Ev Go.Proofs Go.Proofs.S94
open Go.Proofs.S94.H (strsAV zaa zaj Sml GlK GlR)
open Go.Proofs.S94.M (lf zcx Dg dgL dgL_length All16 Sd sB pkAV grw P8 R8 pv8)
variable {gl :Gl} {n:Nat}
def S53' (f f':Bool)(k k':Sh)(a b:List Dg)(i:Nat):St:=⟨[.set 13 (i64 i),.set 12 (i64 a.length),.set 1 (.lst f' k' (dgL b)),.set 0 (.lst f k (dgL a))],[]⟩
theorem z96 (h:1<=n){f f':Bool}{k k':Sh}{a b:List Dg}(ha:All16 a)(hb:All16 b)(hk:Sd a k sB)(hk':Sd b k' sB)(hl:a.length<=60000)(hl2:b.length<=60000) :
  call gl tab n 37 [.lst f k (dgL a),.lst f' k' (dgL b)] []=some (.bool (decide (a=b)),[],[]):=by
 obtain⟨d,rfl⟩:=Nat.exists_eq_add_of_le' h
 have hL:=dgL_length a
 have hL2:=dgL_length b
 rw[zae (fd:=fd37) rfl]
 by_cases hlen:a.length=b.length
 . have st:∀i,i<a.length->M.dgA a i=M.dgA b i->zb1 [.slot 0,.slot 1,.slot 12,.slot 13] (evC gl (call gl tab d) L53 (S53' f f' k k' a b i))=some (S53' f f' k k' a b (i+1)):=fun i hi he=>by
    obtain rfl:k=sB:=by rcases hk with h0|h0;subst h0;simp at hi;exact h0
    obtain rfl:k'=sB:=by rcases hk' with h0|h0;(rw[h0]at hlen;simp at hlen;rw[hlen]at hi;simp at hi);exact h0
    have hA:=M.dgL_at hi
    have hB:=M.dgL_at (show i<b.length by omega)
    have q1:=ha.at hi
    have q2:=H.bytes_all (M.dgA a i)
    have e:=eqB q1 q1
    rw[decide_eq_true rfl]at e
    rw[<-he]at hB
    generalize M.dgA a i=x at *
    rw[S53',S53']
    simp(disch:=apply zq;omega) only[go_sem,simprocAttr,↓Nat.reduceEqDiff,xx,L53,m37,hL,hL2,hA,hB,q1,q2,e,zac]
   have hf:∀i,i<a.length->¬M.dgA a i=M.dgA b i->out1 4 (evC gl (call gl tab d) L53 (S53' f f' k k' a b i))=some (.ret,.bool false):=fun i hi he=>by
    obtain rfl:k=sB:=by rcases hk with h0|h0;subst h0;simp at hi;exact h0
    obtain rfl:k'=sB:=by rcases hk' with h0|h0;(rw[h0]at hlen;simp at hlen;rw[hlen]at hi;simp at hi);exact h0
    have hA:=M.dgL_at hi
    have hB:=M.dgL_at (show i<b.length by omega)
    have q1:=ha.at hi
    have q2:=H.bytes_all (M.dgA a i)
    have q3:=hb.at (show i<b.length by omega)
    have q4:=H.bytes_all (M.dgA b i)
    have e:=eqB q1 q3
    rw[decide_eq_false he]at e
    generalize M.dgA a i=x at *
    generalize M.dgA b i=y at *
    rw[S53']
    simp(disch:=apply zq;omega) only[go_sem,simprocAttr,↓Nat.reduceEqDiff,xx,L53,m37,hL,hL2,hA,hB,q1,q2,q3,q4,e,zac]
   have hne:((a.length:Int) != (b.length:Int))=false:=by rw[hlen];exact bne_self_eq_false _
   rcases zce (fun i=>M.dgA a i=M.dgA b i) a.length with hA|⟨q,hq,hb',he⟩
   . rw[decide_eq_true (M.dgs_eq hlen hA)]
     have hs2:=fun i hi=>st i hi (hA i hi)
     simp only[L53,m37]at hs2
     simp(disch:=apply zq;omega) only[go_sem,simprocAttr,↓Nat.reduceEqDiff,xx,fd37,m37,hL,hL2,hne]
     rw[zao (S53' f f' k k' a b) a.length (by unfold LF;omega)]
     . rw[S53'];simp(disch:=apply zq;omega) only[go_sem,simprocAttr,↓Nat.reduceEqDiff,xx,hL]
     . rw[S53'];simp(disch:=apply zq;omega) only[go_sem,simprocAttr,↓Nat.reduceEqDiff,xx,hL]
     . exact hs2
     . rw[S53'];simp(disch:=apply zq;omega) only[go_sem,simprocAttr,↓Nat.reduceEqDiff,xx,hL]
   . rw[decide_eq_false (fun h=>he (by rw[h]))]
     obtain⟨st',hs1,hg⟩:=zds (hf q hq he)
     have hs2:=fun i (hi:i<q)=>st i (by omega) (hb' i hi)
     simp only[L53,m37]at hs2 hs1
     simp(disch:=apply zq;omega) only[go_sem,simprocAttr,↓Nat.reduceEqDiff,xx,fd37,m37,hL,hL2,hne]
     rw[zao (S53' f f' k k' a b) q (by unfold LF;omega),hs1]
     . simp(disch:=apply zq;omega) only[go_sem,simprocAttr,↓Nat.reduceEqDiff,xx,hg]
     . rw[S53'];simp(disch:=apply zq;omega) only[go_sem,simprocAttr,↓Nat.reduceEqDiff,xx,hL]
     . exact hs2
     . rw[hs1];rfl
 . rw[decide_eq_false (fun h=>hlen (by rw[h]))]
   have hne:((a.length:Int) != (b.length:Int))=true:=by rw[bne_iff_ne];omega
   simp(disch:=apply zq;omega) only[go_sem,simprocAttr,↓Nat.reduceEqDiff,xx,fd37,m37,hL,hL2,hne]
def L15' :MC:=match m15 with| .seq _ (.seq _ (.seq _ (.seq (.seq _ (.block _ (.loop _ b))) _)))=>b|_=>.skip
def zka :MC:=match m15 with| .seq _ (.seq _ (.seq _ (.seq _ (.seq _ (.seq _ (.seq (.seq _ (.block _ (.loop _ b))) _))))))=>b|_=>.skip
def S15' (f:Bool)(sh:Sh)(l:List Rv)(ld:AV)(i:Nat):St:=⟨[.set 23 (i64 i),.set 22 (i64 l.length),.set 21 (.lst f sh (rvs l)),.set 3 (.ptr 3 []),.set 1 (.ptr 1 [])],[(3,.fix (.st [.sc,.sc]) (pv8 (fs l) i)),(1,.fix sLd ld)]⟩
def zj9 (f:Bool)(sh:Sh)(hs:List Hd)(ld:AV)(a:List Dg)(i:Nat):St:=⟨[.set 70 (i64 i),.set 69 (i64 hs.length),.set 68 (.lst f sh (hds hs)),.set 6 (.lst false sB (dgL a)),.set 1 (.ptr 1 [])],[(1,.fix sLd ld)]⟩
section
variable {s z:Int} {f f2 f3:Bool} {sh sh2 sh3:Sh} {l:List Rv} {t:List Dg} {hs:List Hd}
theorem z56 [Nonempty (GlK gl)][Nonempty (M.GlB gl)]{d:Nat}(hd:14<=d)(hl:l.length<=800)(h2:Sr l sh)(ok:∀x∈l,RvOk gl x){U:List AV}(i:Nat)(hi:i<l.length)(hv:RV s l i) :
  zb1 [.slot 1,.slot 3,.slot 21,.slot 22,.slot 23,.key 1,.key 3] (evC gl (call gl tab d) L15' (S15' f sh l (ldAV s f sh l z f2 sh2 t f3 sh3 U) i))=some (S15' f sh l (ldAV s f sh l z f2 sh2 t f3 sh3 U) (i+1)):=by
 obtain rfl:sh=sRe:=h2.resolve_left (fun e=>by subst e;simp at hi)
 have hx:=zmw hi
 have o:=ok _ (zor hi)
 have h1:=o.sh
 have hc:=o.l d (by omega)
 have q1:=H.bytes_all (rat l i).f
 have q2:=b16 o.f
 have hL:=zbl l
 have e1:((rat l i).site != s)=false:=by rw[hv.1];exact bne_self_eq_false _
 have e2:((rat l i).seq != (i:Int))=false:=by rw[hv.2];exact bne_self_eq_false _
 have al:=zgc ok
 have lf:=zas l
 obtain⟨f1,s1,ee,k1⟩:=M.pv8_eq (fs l) i
 have c:=M.append_ok (gl:=gl) (n:=d) hd (s:=i) (f:=f1) (sh:=s1) (t:=P8 (fs l) i) (leaf:=M.dgA (fs l) i) (al.at (by omega)) (by have:=M.P8_le (fs l) (by omega) (k:=i) (by omega);omega) (M.P8_all (fs l) i (by omega) al) k1 (by omega) (M.P8_form (by omega) (by omega))
 rw[<-ee,M.P8_next (by omega)]at c
 have ea:M.dgA (fs l) i=(rat l i).f:=by simp[M.dgA,fs,rat,hi]
 rw[ea]at c
 obtain⟨u,eu⟩:∃u,pv8 (fs l) i= .agg [i64 i,u]:=⟨_,rfl⟩
 rw[S15',S15',M.pv8_s]
 rw[eu]at c ⊢
 have nn:=M.dgL_noImms (P8 (fs l) (i+1))
 clear hv o ea
 generalize P8 (fs l) (i+1)=p at *
 generalize rat l i=y at *
 simp(disch:=apply zq;omega) only[go_sem,simprocAttr,↓Nat.reduceEqDiff,xx,L15',m15,↓out16_eq,H.oo,hx,hL,h1,hc,q1,q2,c,nn,e1,e2]
theorem qhh {d:Nat}(hl:l.length<=800)(h2:Sr l sh)(ok:∀x∈l,RvOk gl x){U:List AV}(i:Nat)(hi:i<l.length)(hv:¬RV s l i) :
  out1 2 (evC gl (call gl tab d) L15' (S15' f sh l (ldAV s f sh l z f2 sh2 t f3 sh3 U) i))=some (.ret,.bool false):=by
 obtain rfl:sh=sRe:=h2.resolve_left (fun e=>by subst e;simp at hi)
 have hx:=zmw hi
 have h1:=(ok _ (zor hi)).sh
 have hL:=zbl l
 obtain⟨u,eu⟩:∃u,pv8 (fs l) i= .agg [i64 i,u]:=⟨_,rfl⟩
 rw[S15',eu]
 by_cases q:(rat l i).site=s
 . have e2:((rat l i).seq != (i:Int))=true:=by rw[bne_iff_ne];exact fun e=>hv ⟨q,e⟩
   have e1:((rat l i).site != s)=false:=by rw[q];exact bne_self_eq_false _
   clear hv q
   generalize rat l i=y at *
   simp(disch:=apply zq;omega) only[go_sem,simprocAttr,↓Nat.reduceEqDiff,xx,L15',m15,↓out16_eq,H.oo,hx,hL,h1,e1,e2]
 . have e1:((rat l i).site != s)=true:=by rw[bne_iff_ne];exact q
   clear hv q
   generalize rat l i=y at *
   simp(disch:=apply zq;omega) only[go_sem,simprocAttr,↓Nat.reduceEqDiff,xx,L15',m15,↓out16_eq,H.oo,hx,hL,h1,e1]
variable [Nonempty (GlK gl)]
theorem z7l {d:Nat}(hd:820<=d)(hl:l.length<=800)(ok:∀x∈l,RvOk gl x)(h3:hs=[]\/sh3=sHd)(hhl:hs.length<=60000)(hh:∀y∈hs,HdOk y)(k:Nat)(hk:k<hs.length)(hv:HV s l hs k) :
  zb1 [.slot 1,.slot 6,.slot 68,.slot 69,.slot 70,.key 1] (evC gl (call gl tab d) zka (zj9 f3 sh3 hs (ldAV s f sh l z f2 sh2 t f3 sh3 (hds hs)) (fs l) k))=some (zj9 f3 sh3 hs (ldAV s f sh l z f2 sh2 t f3 sh3 (hds hs)) (fs l) (k+1)):=by
 obtain rfl:sh3=sHd:=h3.resolve_left (fun e=>by subst e;simp at hk)
 have hL:=dgL_length (fs l)
 rw[zas]at hL
 have hLh:=zb2 hs
 have hy:=zgr hk
 have oy:=hh _ (zcr hk)
 obtain⟨v1,v2,v3,v4,v5⟩:=hv
 obtain⟨m,hm⟩:∃m:Nat,(hdat hs k).size=(m:Int):=⟨(hdat hs k).size.toNat,by omega⟩
 rw[hm,wE]at v4
 have c:=M.root_at (gl:=gl) 800 (n:=d) ((fs l).take m) false sB (by rw[wC,zas];omega) (by omega) ((zgc ok).take _) (by rw[wC,zas];omega) (.inr rfl)
 have htk:List.take m (dgL (fs l))=dgL ((fs l).take m):=by simp[M.dgL,wD]
 have e1:((hdat hs k).site != s)=false:=by rw[v1];exact bne_self_eq_false _
 have er:(hdat hs k).root=Mk.rt M.nd M.em ((fs l).take m):=v4
 rw[<-er]at c
 have q1:=oy.r
 have q2:=oy.s
 have w1:=H.bytes_all (hdat hs k).root
 have w2:=H.bytes_all (hdat hs k).sgn
 have eB:=eqB q1 q1
 rw[decide_eq_true rfl]at eB
 have u1:=b16 q1
 have u2:=b16 q2
 clear er v4 oy v1
 rw[hm]at v2 v3 v5
 rw[zj9,zj9]
 by_cases k0:k=0
 . subst k0
   generalize hdat hs 0=y at *
   simp(disch:=apply zq;omega) only[go_sem,simprocAttr,↓Nat.reduceEqDiff,xx,zka,m15,↓out16_eq,H.oo,hL,hLh,hy,hm,htk,c,e1,q1,q2,u1,u2,w1,w2,eB]
 . obtain⟨v6,v7⟩:=v5 (by omega)
   have hy':=zgr (l:=hs) (i:=k-1) (by omega)
   have ek:((k:Int)-1)=((k-1:Nat):Int):=by omega
   clear v5
   generalize hdat hs k=y at *
   generalize hdat hs (k-1)=x at *
   simp(disch:=apply zq;omega) only[go_sem,simprocAttr,↓Nat.reduceEqDiff,xx,zka,m15,↓out16_eq,H.oo,hL,hLh,hy,hy',hm,ek,htk,c,e1,q1,q2,u1,u2,w1,w2,eB]
theorem qex {d:Nat}(hd:820<=d)(hl:l.length<=800)(ok:∀x∈l,RvOk gl x)(h3:hs=[]\/sh3=sHd)(hhl:hs.length<=60000)(hh:∀y∈hs,HdOk y)(k:Nat)(hk:k<hs.length)(hv:¬HV s l hs k) :
  out1 2 (evC gl (call gl tab d) zka (zj9 f3 sh3 hs (ldAV s f sh l z f2 sh2 t f3 sh3 (hds hs)) (fs l) k))=some (.ret,.bool false):=by
 obtain rfl:sh3=sHd:=h3.resolve_left (fun e=>by subst e;simp at hk)
 have hL:=dgL_length (fs l)
 rw[zas]at hL
 have hLh:=zb2 hs
 have hy:=zgr hk
 have oy:=hh _ (zcr hk)
 have q1:=oy.r
 have q2:=oy.s
 have w1:=H.bytes_all (hdat hs k).root
 have w2:=H.bytes_all (hdat hs k).sgn
 have u1:=b16 q1
 have u2:=b16 q2
 clear oy
 rw[zj9]
 by_cases v1:(hdat hs k).site=s
 rotate_left
 . have e1:((hdat hs k).site != s)=true:=by rw[bne_iff_ne];exact v1
   clear hv v1
   generalize hdat hs k=y at *
   simp(disch:=apply zq;omega) only[go_sem,simprocAttr,↓Nat.reduceEqDiff,xx,zka,m15,↓out16_eq,H.oo,hL,hLh,hy,e1,q1,q2,u1,u2,w1,w2]
 have e1:((hdat hs k).site != s)=false:=by rw[v1];exact bne_self_eq_false _
 by_cases v2:0<=(hdat hs k).size
 rotate_left
 . clear hv v1
   generalize hdat hs k=y at *
   simp(disch:=apply zq;omega) only[go_sem,simprocAttr,↓Nat.reduceEqDiff,xx,zka,m15,↓out16_eq,H.oo,hL,hLh,hy,e1,q1,q2,u1,u2,w1,w2]
 by_cases v3:(hdat hs k).size<=l.length
 rotate_left
 . clear hv v1
   generalize hdat hs k=y at *
   simp(disch:=apply zq;omega) only[go_sem,simprocAttr,↓Nat.reduceEqDiff,xx,zka,m15,↓out16_eq,H.oo,hL,hLh,hy,e1,q1,q2,u1,u2,w1,w2]
 obtain⟨m,hm⟩:∃m:Nat,(hdat hs k).size=(m:Int):=⟨(hdat hs k).size.toNat,by omega⟩
 have c:=M.root_at (gl:=gl) 800 (n:=d) ((fs l).take m) false sB (by rw[wC,zas];omega) (by omega) ((zgc ok).take _) (by rw[wC,zas];omega) (.inr rfl)
 have htk:List.take m (dgL (fs l))=dgL ((fs l).take m):=by simp[M.dgL,wD]
 have q3:(Mk.rt M.nd M.em ((fs l).take m)).length=16:=M.rt_len ((zgc ok).take _)
 have eB:=eqB q1 q3
 have hR:R8 (fs l) (hdat hs k).size.toNat=Mk.rt M.nd M.em ((fs l).take m):=by rw[hm,wE,R8]
 have u3:=b16 q3
 have w3:=H.bytes_all (Mk.rt M.nd M.em ((fs l).take m))
 by_cases v4:(hdat hs k).root=Mk.rt M.nd M.em ((fs l).take m)
 rotate_left
 . rw[decide_eq_false v4]at eB
   clear hv v1 v4 hR
   rw[hm]at v2 v3
   generalize Mk.rt M.nd M.em ((fs l).take m)=r at *
   generalize hdat hs k=y at *
   simp(disch:=apply zq;omega) only[go_sem,simprocAttr,↓Nat.reduceEqDiff,xx,zka,m15,↓out16_eq,H.oo,hL,hLh,hy,hm,htk,c,e1,q1,q2,q3,u1,u2,u3,w1,w2,w3,eB]
 rw[decide_eq_true v4]at eB
 have k0:0<k:=by
  by_cases k0:0<k
  . exact k0
  . exact absurd ⟨v1,v2,v3,by rw[hR];exact v4,fun h=>absurd h k0⟩ hv
 have hy':=zgr (l:=hs) (i:=k-1) (by omega)
 have ek:((k:Int)-1)=((k-1:Nat):Int):=by omega
 have v5:¬((hdat hs (k-1)).size<=(m:Int)/\(hdat hs (k-1)).lo<=(hdat hs k).lo):=fun h=>hv ⟨v1,v2,v3,by rw[hR];exact v4,fun _=>by rw[hm];exact h⟩
 clear hv v1 v4 hR
 rw[hm]at v2 v3
 generalize Mk.rt M.nd M.em ((fs l).take m)=r at *
 generalize hdat hs k=y at *
 generalize hdat hs (k-1)=x at *
 by_cases v6:x.size<=(m:Int)
 . have v7:¬x.lo<=y.lo:=fun h=>v5 ⟨v6,h⟩
   clear v5
   simp(disch:=apply zq;omega) only[go_sem,simprocAttr,↓Nat.reduceEqDiff,xx,zka,m15,↓out16_eq,H.oo,hL,hLh,hy,hy',hm,ek,htk,c,e1,q1,q2,q3,u1,u2,u3,w1,w2,w3,eB]
 . clear v5
   simp(disch:=apply zq;omega) only[go_sem,simprocAttr,↓Nat.reduceEqDiff,xx,zka,m15,↓out16_eq,H.oo,hL,hLh,hy,hy',hm,ek,htk,c,e1,q1,q2,q3,u1,u2,u3,w1,w2,w3,eB]
end
end Go.Proofs.S94.L
