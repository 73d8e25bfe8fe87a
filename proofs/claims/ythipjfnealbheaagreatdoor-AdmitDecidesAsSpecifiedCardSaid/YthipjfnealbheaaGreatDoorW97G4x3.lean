/-
  Chapter 16: the victim, both ways. No condition.
-/
import Derived.Test.YthipjfnealbheaaGreatDoorW97G3x3
import Derived.Test.YthipjfnealbheaaGreatDoorW97G2x3
set_option linter.all false
open Nat renaming le_refl->wB
namespace Go.Proofs.S97.Q
open Go Go.Ev Go.Proofs
variable {gl :Gl} {n:Nat}
def L30 :MC:=match m63 with| .seq _ (.seq _ (.seq _ (.seq _ (.seq _ (.seq _ (.seq _ (.seq _ (.seq _ (.seq (.seq _ (.block _ (.loop _ b))) _)))))))))=>b|_=>.skip
def S30 (l:List A3)(g:List Int)(k:Nat)(o:Int×Int)(i:Nat):St :=
 ⟨[.set 13 (i64 i),.set 12 (i64 o.2),.set 11 (.ptr 11 []),.set 10 (.lst false .sc (ns g)),.set 9 (i64 k),.set 8 (.ptr 8 []),.set 1 (.lst false sA (ac l))],
   [(11,.fix sS (.agg [i64 o.1,i64 0])),(8,.fix sS (.agg [i64 0,i64 0]))]⟩
set_option maxHeartbeats 2000000 in
theorem step30 {d:Nat}{l:List A3}{g:List Int}{k i:Nat}(hv:VA l)(hgl:g.length=l.length)(hi:i<l.length)(hg:0<=nat g i/\nat g i<=1099511627776) :
  za1 [.slot 1,.slot 8,.slot 9,.slot 10,.slot 11,.slot 12,.slot 13,.key 8,.key 11] (evC gl (call gl tab d) L30 (S30 l g k (bst l g k i) i))=some (S30 l g k (bst l g k (i+1)) (i+1)):=by
 have hn:=hv.n
 have hx:=zde hi
 have hu:=(hv.ok i hi).u
 have hy:=ns_at (show i<g.length by omega)
 by_cases hk:i=k
 . subst hk
   have e:bst l g i (i+1)=bst l g i i:=by rw[bst,if_neg (by omega)]
   rw[e]
   generalize bst l g i i=o at *
   simp(disch:=apply zq;omega) only[go_sem,simprocAttr,↓Nat.reduceEqDiff,xx,L30,m63,S30,hx,zab]
 . have h1:((i:Int)==k)=false:=by rw[beq_eq_false_iff_ne];omega
   by_cases h3:(bst l g k i).2<(aat l i).u-nat g i
   . have e:bst l g k (i+1)=((aat l i).t,(aat l i).u-nat g i):=by rw[bst,if_pos ⟨hk,h3⟩]
     rw[e]
     generalize bst l g k i=o at *
     simp(disch:=apply zq;omega) only[go_sem,simprocAttr,↓Nat.reduceEqDiff,xx,L30,m63,S30,hx,zab,h1,hy,ns_length,hgl]
   . have e:bst l g k (i+1)=bst l g k i:=by rw[bst,if_neg (fun h=>h3 h.2)]
     rw[e]
     generalize bst l g k i=o at *
     simp(disch:=apply zq;omega) only[go_sem,simprocAttr,↓Nat.reduceEqDiff,xx,L30,m63,S30,hx,zab,h1,hy,ns_length,hgl]
set_option maxHeartbeats 2000000 in
theorem zti (h:12<=n){l:List A3}(hv:VA l){q c v:Int}{k:Nat}(hc:0<=c/\c<=1099511627776)(hvv:0<=v/\v<=1099511627776)(hk:k<l.length)(hq:(aat l k).t=q){m:Int}(hm:Lv (wnt l k v) c m)
  (ht:c<sumU l l.length+v) (c43:call gl tab (n-1) 87 [.lst false sA (ac l),i64 q] []=some (i64 k,[],[])) :
  call gl tab n 63 [i64 c,.lst false sA (ac l),i64 q,i64 v] []=some (if nat (gets (wnt l k v) m c l.length) k<(aat l k).u+v then .agg [i64 0,i64 160]else .agg [i64 (bst l (gets (wnt l k v) m c l.length) k l.length).1,i64 0],[],[]):=by
 obtain⟨d,rfl⟩:=Nat.exists_eq_add_of_le' h
 rw[show d+12-1=d+11 from rfl]at c43
 have hn:=hv.n
 have hu:=(hv.ok k hk).u
 have hs:=zcb hv (wB l.length)
 have c28:=@zdh gl (d+11) (by omega) false sA l (.inr rfl) hv
 have c31:=@z0u gl (d+11) (by omega) l hv k hk q v hq hvv
 have hx:=zde hk
 have hws:=zd0 hv (k:=k) hvv
 have c17:=@z51 gl (d+11) (by omega) false sS (wnt l k v) (.inr rfl) hws c hc m hm
 have hgb:=fun i hi=>@z3j (wnt l k v) hws c m hm i hi
 rw[zb5]at c17 hgb
 have hgl:=zbi (wnt l k v) m c l.length
 have hgx:=ns_at (show k<(gets (wnt l k v) m c l.length).length by rw[hgl];exact hk)
 generalize gets (wnt l k v) m c l.length=g at *
 have h0:=hgb k hk
 have hst:=fun i hi=>@step30 gl (d+11) l g k i hv hgl hi (hgb i hi)
 simp only[L30,m63]at hst
 rw[zaf (fd:=fd63) rfl]
 by_cases hg:nat g k<(aat l k).u+v
 . simp(disch:=apply zq;omega) only[go_sem,simprocAttr,↓Nat.reduceEqDiff,xx,fd63,m63,zab,c43,c28,c31,c17,hx,hgx,ns_length,hgl,hg]
 . simp(disch:=apply zq;omega) only[go_sem,simprocAttr,↓Nat.reduceEqDiff,xx,fd63,m63,zab,c43,c28,c31,c17,hx,hgx,ns_length,hgl,hg]
   rw[zaj (fun i=>S30 l g k (bst l g k i) i) l.length (by unfold LF;omega)]
   . simp(disch:=apply zq;omega) only[go_sem,simprocAttr,↓Nat.reduceEqDiff,xx,S30,zab]
   . simp(disch:=apply zq;omega) only[go_sem,simprocAttr,↓Nat.reduceEqDiff,xx,S30,zab,bst]
   . exact hst
   . simp(disch:=apply zq;omega) only[go_sem,simprocAttr,↓Nat.reduceEqDiff,xx,S30,zab]
end Go.Proofs.S97.Q
namespace Go.Proofs.S97.Q
open Go Go.Ev Go.Proofs
variable {gl :Gl} {n:Nat}
structure GOk (s:S2)(g:Int):Prop where
 lo:0<=g
 hi:g<=s.x
def sumG (g:List Int):Nat->Int
 | 0=>0
 | i+1=>sumG g i+nat g i
def sumX (l:List S2):Nat->Int
 | 0=>0
 | i+1=>sumX l i+(sat l i).x
section
variable {l :List S2} {g:List Int}
end
section
variable {l :List S2} {g:List Int} {f f':Bool} {k k':Sh} {c:Int} (hm:Mk l k sS) (hm':Mk g k' .sc) (hv:VS l) (hlen:g.length=l.length)
include hm hm' hv hlen
end
section
variable {l :List S2} {g:List Int} {f f':Bool} {k k':Sh} {c:Int} (hm:Mk l k sS) (hm':Mk g k' .sc) (hv:VS l) (hlen:g.length=l.length)
include hm hm' hv hlen
end
end Go.Proofs.S97.Q
namespace Go.Proofs.S97.Q
open Go Go.Ev Go.Proofs
variable {l :List S2} {c m:Int}
theorem zwz {s:S2}(h:SOk s){m:Int}(hm:0<=m/\m<=1099511627776):at1 s (m+1)=at1 s m+mn s.w (s.x-at1 s m):=by
 have h1:=h.w;have h2:=h.x
 have e:s.w*(m+1)=s.w*m+s.w:=by rw[Int.mul_add,Int.mul_one]
 unfold at1 mn
 rw[e]
 repeat' split
 all_goals omega
theorem qju {s:S2}(h:SOk s):at1 s 1099511627776=s.x:=by
 have h1:=h.w;have h2:=h.x
 have:1*1099511627776<=s.w*1099511627776:=Int.mul_le_mul_of_nonneg_right h1.1 (by decide)
 unfold at1 mn;split<;>omega
theorem qao (hv:VS l):∀{i:Nat},i<=l.length->allF l 1099511627776 i=sumX l i
 | 0,_=>rfl
 | i+1,h=>by rw[allF,sumX,qao hv (show i<=l.length by omega),qju (hv.ok i (by omega))]
theorem zli (hv:VS l){q:Int}(hq:0<=q/\q<=1099511627777):∀{i:Nat},i<=l.length->allF l q i<=sumX l i
 | 0,_=>Int.le_refl _
 | i+1,h=>by
   have h1:=zli hv hq (show i<=l.length by omega)
   have h2:=zh4 (hv.ok i (by omega)) hq
   rw[allF,sumX];omega
theorem qlp (hv:VS l){q:Int}(h:Lv l c m)(hq:q<=1099511627776)(hle:allF l q l.length<=c):q<=m:=by
 rcases Int.lt_or_le m q with h1|h1
 . have h2:=zlh hv (show m+1<=q by omega) (wB _)
   rcases h.gt with h3|h3<;>omega
 . exact h1
theorem z9z (hv:VS l)(h:Lv l c m):∀{i:Nat},i<=l.length->lef l m c i=(let d:=c-allF l m l.length-(allF l (m+1) i-allF l m i);if 0<d then d else 0)
 | 0,_=>by
   have:=h.le
   show c-allF l m l.length=if 0<c-allF l m l.length-(0-0)then c-allF l m l.length-(0-0)else 0
   rw[Int.sub_zero,Int.sub_zero];split<;>omega
 | i+1,hi=>by
   have h0:=h.lo;have h00:=h.hi
   have ih:=z9z hv h (show i<=l.length by omega)
   have h1:=zwz (hv.ok i (by omega)) ⟨h0,h00⟩
   have h2:=zh4 (hv.ok i (by omega)) (show 0<=m/\m<=1099511627777 by omega)
   have h3:=(hv.ok i (by omega)).w
   have h4:=(hv.ok i (by omega)).x
   simp only at ih ⊢
   rw[lef,ih,allF,allF,h1]
   unfold mor mn
   generalize at1 (sat l i) m=A at *
   generalize allF l m l.length=B at *
   generalize allF l (m+1) i=C at *
   generalize allF l m i=D at *
   repeat' split
   all_goals omega
theorem zz6 (hv:VS l):∀{i:Nat},i<=l.length->sumG (gets l m c l.length) i=allF l m i+(c-allF l m l.length)-lef l m c i
 | 0,_=>by simp only[sumG,allF,lef];omega
 | i+1,hi=>by
   have ih:=zz6 hv (show i<=l.length by omega)
   rw[sumG,ih,zmw l m c (show i<l.length by omega),get1,allF,lef];omega
theorem z3k (hv:VS l)(h:Lv l c m){i:Nat}(hi:i<l.length):at1 (sat l i) m<=get1 l m c i/\get1 l m c i<=at1 (sat l i) (m+1)/\get1 l m c i<=(sat l i).x/\0<=get1 l m c i:=by
 have h0:=h.lo;have h00:=h.hi
 have h1:=zwz (hv.ok i hi) ⟨h0,h00⟩
 have h2:=zh4 (hv.ok i hi) (show 0<=m/\m<=1099511627777 by omega)
 have h3:=zr3 hv h (show i<=l.length by omega)
 have h4:=zry (hv.ok i hi) (show 0<=m/\m<=1099511627777 by omega) h3.1
 have h5:=zx2 (sat l i).w ((sat l i).x-at1 (sat l i) m)
 rw[get1]
 rcases h5.2.2 with h6|h6<;>omega
theorem qd7 (hv:VS l)(h:Lv l c m){i:Nat}(hi:i<l.length):GOk (sat l i) (nat (gets l m c l.length) i):=by
 rw[zmw l m c hi]
 have:=z3k hv h hi
 exact⟨this.2.2.2,this.2.2.1⟩
theorem z7r (hv:VS l)(h:Lv l c m):sumG (gets l m c l.length) l.length=mn c (sumX l l.length):=by
 have h0:=h.lo;have h00:=h.hi
 have e:=zz6 hv (c:=c) (m:=m) (wB l.length)
 have e2:=z9z hv h (wB l.length)
 simp only at e2
 have h1:=h.le
 have h2:=zli hv (show 0<=m/\m<=1099511627777 by omega) (wB l.length)
 rcases h.gt with h3|h3
 . subst h3
   have h4:=qao hv (wB l.length)
   have h5:allF l (1099511627776+1) l.length<=sumX l l.length:=zli hv (by decide) (wB _)
   have h6:=zlh hv (show(1099511627776:Int)<=1099511627776+1 by decide) (wB l.length)
   rw[e,e2];unfold mn
   split<;>split<;>omega
 . have h5:=zli hv (show 0<=m+1/\m+1<=1099511627777 by omega) (wB l.length)
   rw[e,e2];unfold mn
   split<;>split<;>omega
theorem qd8 (hv:VS l)(h:Lv l c m){i:Nat}(hi:i<l.length)(hx:nat (gets l m c l.length) i<(sat l i).x):(sat l i).w*m<=nat (gets l m c l.length) i:=by
 rw[zmw l m c hi]at hx ⊢
 have h1:=z3k hv h hi
 have h2:=zx2 ((sat l i).w*m) (sat l i).x
 have h3:at1 (sat l i) m=mn ((sat l i).w*m) (sat l i).x:=rfl
 rw[h3]at h1
 rcases h2.2.2 with h4|h4<;>omega
def sumW (l:List S2):Nat->Int
 | 0=>0
 | i+1=>sumW l i+(sat l i).w
theorem zz5 (hv:VS l):∀{i:Nat},i<=l.length->(i:Int)<=sumW l i/\sumW l i<=(i:Int)*1048576
 | 0,_=>by simp[sumW]
 | i+1,hi=>by
   have h1:=zz5 hv (show i<=l.length by omega)
   have h3:=(hv.ok i (by omega)).w
   rw[sumW];omega
theorem zw3 (hv:VS l){t:Int}(ht:0<=t):∀{i:Nat},i<=l.length->allF l t i<=sumW l i*t
 | 0,_=>by simp[allF,sumW]
 | i+1,hi=>by
   have h1:=zw3 hv ht (show i<=l.length by omega)
   have h2:=zx2 ((sat l i).w*t) (sat l i).x
   rw[allF,sumW,Int.add_mul,at1];omega
theorem qcr (hv:VS l)(hc:0<=c/\c<=1099511627776)(h:Lv l c m)(hl:0<l.length):0<=c/sumW l l.length/\c/sumW l l.length<=m/\sumW l l.length*(c/sumW l l.length)<=c:=by
 have h1:=zz5 hv (wB l.length)
 have h2:0<=c/sumW l l.length:=Int.ediv_nonneg hc.1 (by omega)
 have h3:c/sumW l l.length<=c:=Int.ediv_le_self _ hc.1
 have h4:sumW l l.length*(c/sumW l l.length)<=c:=Int.mul_ediv_self_le (by omega)
 refine⟨h2,qlp hv h (by omega) ?_,h4⟩
 exact Int.le_trans (zw3 hv h2 (wB _)) h4
theorem z3h (hv:VS l)(hc:0<=c/\c<=1099511627776)(h:Lv l c m){i:Nat}(hi:i<l.length)(hx:nat (gets l m c l.length) i<(sat l i).x):(sat l i).w*(c/sumW l l.length)<=nat (gets l m c l.length) i:=by
 have h1:=qcr hv hc h (show 0<l.length by omega)
 have h2:=qd8 hv h hi hx
 have h3:=Int.mul_le_mul_of_nonneg_left h1.2.1 (show 0<=(sat l i).w by have:=(hv.ok i hi).w;omega)
 omega
end Go.Proofs.S97.Q
