/-
  Chapter 16: is a division fair? No condition.
-/
import Derived.Test.YthipjfnealbheaaDoorW17G3x4
set_option linter.all false
open Nat renaming le_refl->wB
namespace Go.Proofs.S17.Q
open Go Go.Ev Go.Proofs
variable {gl :Gl} {n:Nat}
structure GOk (s:S2)(g:Int):Prop where
 lo:0<=g
 hi:g<=s.x
def sumG (g:List Int):Nat->Int
 | 0=>0
 | i+1=>sumG g i+nat g i
def sumX (l:List S2):Nat->Int
 | 0=>0
 | i+1=>sumX l i+(sat l i).x
section
variable {l :List S2} {g:List Int}
end
section
variable {l :List S2} {g:List Int} {f f':Bool} {k k':Sh} {c:Int} (hm:Mk l k sS) (hm':Mk g k' .sc) (hv:VS l) (hlen:g.length=l.length)
include hm hm' hv hlen
end
section
variable {l :List S2} {g:List Int} {f f':Bool} {k k':Sh} {c:Int} (hm:Mk l k sS) (hm':Mk g k' .sc) (hv:VS l) (hlen:g.length=l.length)
include hm hm' hv hlen
end
end Go.Proofs.S17.Q
namespace Go.Proofs.S17.Q
open Go Go.Ev Go.Proofs
variable {l :List S2} {c m:Int}
theorem zve {s:S2}(h:SOk s){m:Int}(hm:0<=m/\m<=1099511627776):at1 s (m+1)=at1 s m+mn s.w (s.x-at1 s m):=by
 have h1:=h.w;have h2:=h.x
 have e:s.w*(m+1)=s.w*m+s.w:=by rw[Int.mul_add,Int.mul_one]
 unfold at1 mn
 rw[e]
 repeat' split
 all_goals omega
theorem qgq {s:S2}(h:SOk s):at1 s 1099511627776=s.x:=by
 have h1:=h.w;have h2:=h.x
 have:1*1099511627776<=s.w*1099511627776:=Int.mul_le_mul_of_nonneg_right h1.1 (by decide)
 unfold at1 mn;split<;>omega
theorem z7y (hv:VS l):∀{i:Nat},i<=l.length->allF l 1099511627776 i=sumX l i
 | 0,_=>rfl
 | i+1,h=>by rw[allF,sumX,z7y hv (show i<=l.length by omega),qgq (hv.ok i (by omega))]
theorem zkp (hv:VS l){q:Int}(hq:0<=q/\q<=1099511627777):∀{i:Nat},i<=l.length->allF l q i<=sumX l i
 | 0,_=>Int.le_refl _
 | i+1,h=>by
   have h1:=zkp hv hq (show i<=l.length by omega)
   have h2:=zj3 (hv.ok i (by omega)) hq
   rw[allF,sumX];omega
theorem qhw (hv:VS l){q:Int}(h:Lv l c m)(hq:q<=1099511627776)(hle:allF l q l.length<=c):q<=m:=by
 rcases Int.lt_or_le m q with h1|h1
 . have h2:=zko hv (show m+1<=q by omega) (wB _)
   rcases h.gt with h3|h3<;>omega
 . exact h1
theorem z7e (hv:VS l)(h:Lv l c m):∀{i:Nat},i<=l.length->lef l m c i=(let d:=c-allF l m l.length-(allF l (m+1) i-allF l m i);if 0<d then d else 0)
 | 0,_=>by
   have:=h.le
   show c-allF l m l.length=if 0<c-allF l m l.length-(0-0)then c-allF l m l.length-(0-0)else 0
   rw[Int.sub_zero,Int.sub_zero];split<;>omega
 | i+1,hi=>by
   have h0:=h.lo;have h00:=h.hi
   have ih:=z7e hv h (show i<=l.length by omega)
   have h1:=zve (hv.ok i (by omega)) ⟨h0,h00⟩
   have h2:=zj3 (hv.ok i (by omega)) (show 0<=m/\m<=1099511627777 by omega)
   have h3:=(hv.ok i (by omega)).w
   have h4:=(hv.ok i (by omega)).x
   simp only at ih ⊢
   rw[lef,ih,allF,allF,h1]
   unfold mor mn
   generalize at1 (sat l i) m=A at *
   generalize allF l m l.length=B at *
   generalize allF l (m+1) i=C at *
   generalize allF l m i=D at *
   repeat' split
   all_goals omega
theorem zyg (hv:VS l):∀{i:Nat},i<=l.length->sumG (gets l m c l.length) i=allF l m i+(c-allF l m l.length)-lef l m c i
 | 0,_=>by simp only[sumG,allF,lef];omega
 | i+1,hi=>by
   have ih:=zyg hv (show i<=l.length by omega)
   rw[sumG,ih,zlz l m c (show i<l.length by omega),get1,allF,lef];omega
theorem z1n (hv:VS l)(h:Lv l c m){i:Nat}(hi:i<l.length):at1 (sat l i) m<=get1 l m c i/\get1 l m c i<=at1 (sat l i) (m+1)/\get1 l m c i<=(sat l i).x/\0<=get1 l m c i:=by
 have h0:=h.lo;have h00:=h.hi
 have h1:=zve (hv.ok i hi) ⟨h0,h00⟩
 have h2:=zj3 (hv.ok i hi) (show 0<=m/\m<=1099511627777 by omega)
 have h3:=zug hv h (show i<=l.length by omega)
 have h4:=zub (hv.ok i hi) (show 0<=m/\m<=1099511627777 by omega) h3.1
 have h5:=zwf (sat l i).w ((sat l i).x-at1 (sat l i) m)
 rw[get1]
 rcases h5.2.2 with h6|h6<;>omega
theorem qbb (hv:VS l)(h:Lv l c m){i:Nat}(hi:i<l.length):GOk (sat l i) (nat (gets l m c l.length) i):=by
 rw[zlz l m c hi]
 have:=z1n hv h hi
 exact⟨this.2.2.2,this.2.2.1⟩
theorem z5r (hv:VS l)(h:Lv l c m):sumG (gets l m c l.length) l.length=mn c (sumX l l.length):=by
 have h0:=h.lo;have h00:=h.hi
 have e:=zyg hv (c:=c) (m:=m) (wB l.length)
 have e2:=z7e hv h (wB l.length)
 simp only at e2
 have h1:=h.le
 have h2:=zkp hv (show 0<=m/\m<=1099511627777 by omega) (wB l.length)
 rcases h.gt with h3|h3
 . subst h3
   have h4:=z7y hv (wB l.length)
   have h5:allF l (1099511627776+1) l.length<=sumX l l.length:=zkp hv (by decide) (wB _)
   have h6:=zko hv (show(1099511627776:Int)<=1099511627776+1 by decide) (wB l.length)
   rw[e,e2];unfold mn
   split<;>split<;>omega
 . have h5:=zkp hv (show 0<=m+1/\m+1<=1099511627777 by omega) (wB l.length)
   rw[e,e2];unfold mn
   split<;>split<;>omega
theorem qbc (hv:VS l)(h:Lv l c m){i:Nat}(hi:i<l.length)(hx:nat (gets l m c l.length) i<(sat l i).x):(sat l i).w*m<=nat (gets l m c l.length) i:=by
 rw[zlz l m c hi]at hx ⊢
 have h1:=z1n hv h hi
 have h2:=zwf ((sat l i).w*m) (sat l i).x
 have h3:at1 (sat l i) m=mn ((sat l i).w*m) (sat l i).x:=rfl
 rw[h3]at h1
 rcases h2.2.2 with h4|h4<;>omega
def sumW (l:List S2):Nat->Int
 | 0=>0
 | i+1=>sumW l i+(sat l i).w
theorem zyf (hv:VS l):∀{i:Nat},i<=l.length->(i:Int)<=sumW l i/\sumW l i<=(i:Int)*1048576
 | 0,_=>by simp[sumW]
 | i+1,hi=>by
   have h1:=zyf hv (show i<=l.length by omega)
   have h3:=(hv.ok i (by omega)).w
   rw[sumW];omega
theorem zvi (hv:VS l){t:Int}(ht:0<=t):∀{i:Nat},i<=l.length->allF l t i<=sumW l i*t
 | 0,_=>by simp[allF,sumW]
 | i+1,hi=>by
   have h1:=zvi hv ht (show i<=l.length by omega)
   have h2:=zwf ((sat l i).w*t) (sat l i).x
   rw[allF,sumW,Int.add_mul,at1];omega
theorem z9x (hv:VS l)(hc:0<=c/\c<=1099511627776)(h:Lv l c m)(hl:0<l.length):0<=c/sumW l l.length/\c/sumW l l.length<=m/\sumW l l.length*(c/sumW l l.length)<=c:=by
 have h1:=zyf hv (wB l.length)
 have h2:0<=c/sumW l l.length:=Int.ediv_nonneg hc.1 (by omega)
 have h3:c/sumW l l.length<=c:=Int.ediv_le_self _ hc.1
 have h4:sumW l l.length*(c/sumW l l.length)<=c:=Int.mul_ediv_self_le (by omega)
 refine⟨h2,qhw hv h (by omega) ?_,h4⟩
 exact Int.le_trans (zvi hv h2 (wB _)) h4
theorem z1l (hv:VS l)(hc:0<=c/\c<=1099511627776)(h:Lv l c m){i:Nat}(hi:i<l.length)(hx:nat (gets l m c l.length) i<(sat l i).x):(sat l i).w*(c/sumW l l.length)<=nat (gets l m c l.length) i:=by
 have h1:=z9x hv hc h (show 0<l.length by omega)
 have h2:=qbc hv h hi hx
 have h3:=Int.mul_le_mul_of_nonneg_left h1.2.1 (show 0<=(sat l i).w by have:=(hv.ok i hi).w;omega)
 omega
end Go.Proofs.S17.Q
