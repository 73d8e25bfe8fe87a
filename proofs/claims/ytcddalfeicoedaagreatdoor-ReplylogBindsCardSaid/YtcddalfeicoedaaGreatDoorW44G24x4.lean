/-
  Chapter 44: a ledger of given replies. No condition.
-/
import Derived.Test.YtcddalfeicoedaaGreatDoorW44G23x4
import Derived.Test.YtcddalfeicoedaaGreatDoorW44G16x4
import Derived.Test.YtcddalfeicoedaaGreatDoorW44G21x4
import Derived.Test.YtcddalfeicoedaaGreatDoorW44G22x4
set_option linter.all false
open List renaming getD_eq_getElem?_getD->wA,getElem?_eq_getElem->wB,length_eq_zero_iff->wC,drop_zero->wD
open Int renaming toNat_natCast->wE,eq_ofNat_of_zero_le->wF
open Nat renaming add_sub_cancel->wG,exists_eq_add_of_le'->wH,sub_zero->wI
namespace Go.Proofs.S44.L
open Go Go.Ev Go.Proofs Go.Proofs.S44
open Go.Proofs.S44.H (strsAV zaa zaj Sml GlK GlR)
open Go.Proofs.S44.M (lf zde Dg dgL dgL_length All16 Sd sB pkAV grw P8)
variable {gl :Gl} {n:Nat}
def at7 (y:Re)(k:Nat):Re:={y with site:=7,seq:=k}
theorem qbz {y:Re}(h:ReR y){k:Nat}(hk:k<=1000):ReR (at7 y k) :=
 {h with i:=⟨⟨by show R64 7;unfold R64;omega,by show R64 (k:Int);unfold R64;omega,h.i.1.2.2⟩,h.i.2⟩}
theorem z2n {y:Re}(h:ReS y)(k:Nat):ReS (at7 y k):={h with h:=h.h}
def reat (r:List Re)(k:Nat):Re:=r.getD k zR0
theorem zkl {r:List Re}{k:Nat}(h:k<r.length):reat r k∈r:=by
 rw[reat,wA,wB h];exact List.getElem_mem h
theorem zt8 {r:List Re}{k:Nat}(h:k<r.length):rat (r.map toRv) k=toRv (reat r k):=by
 rw[rat,reat,wA,wA,List.getElem?_map,wB h];rfl
def ws (r:List Re):Nat->List Rv
 | 0=>[]
 | k+1=>ws r k++[toRv (at7 (reat r k) k)]
theorem ws_s (r:List Re)(k:Nat):ws r (k+1)=ws r k++[toRv (at7 (reat r k) k)]:=rfl
theorem zfb (r:List Re):∀k,(ws r k).length=k
 | 0=>rfl
 | k+1=>by rw[ws_s,List.length_append,zfb r k];rfl
theorem z7w (r:List Re):∀k i,i<k->rat (ws r k) i=toRv (at7 (reat r i) i)
 | 0,i,h=>by omega
 | k+1,i,h=>by
   by_cases h1:i<k
   . rw[ws_s,zzb (by rw[zfb];exact h1)];exact z7w r k i h1
   . obtain rfl:i=k:=by omega
     have e:=zt9 (ws r i) (toRv (at7 (reat r i) i))
     rw[zfb]at e
     rw[ws_s];exact e
structure RsOk (r:List Re)(k:Nat):Prop where
 l:k<=1000
 n:k<=r.length
 s:∀i,i<k->ReS (reat r i)
 r:∀y∈r,ReR y
theorem RsOk.mem {r:List Re}:∀{k:Nat},RsOk r k->∀x∈ws r k,∃i,i<k/\x=toRv (at7 (reat r i) i)
 | 0,_,x,hx=>by simp[ws]at hx
 | k+1,h,x,hx=>by
   rw[ws_s]at hx
   rcases List.mem_append.1 hx with h1|h1
   . obtain⟨i,hi,e⟩:=RsOk.mem (k:=k) ⟨by have:=h.l;omega,by have:=h.n;omega,fun i hi=>h.s i (by omega),h.r⟩ x h1
     exact⟨i,by omega,e⟩
   . exact⟨k,by omega,List.mem_singleton.1 h1⟩
section
variable {r :List Re} {k:Nat}
theorem RsOk.R (h:RsOk r k){i:Nat}(hi:i<k):ReR (at7 (reat r i) i):=qbz (h.r _ (zkl (by have:=h.n;omega))) (by have:=h.l;omega)
theorem RsOk.ok [Nonempty (GlK gl)](h:RsOk r k):∀x∈ws r k,RvOk gl x:=fun x hx=>by
 obtain⟨i,hi,rfl⟩:=h.mem x hx
 exact zn8 (h.R hi) (z2n (h.s i hi) i)
theorem RsOk.all16 (h:RsOk r k):All16 (fs (ws r k)):=fun y hy=>by
 obtain⟨x,hx,rfl⟩:=List.mem_map.1 hy
 obtain⟨i,hi,rfl⟩:=h.mem x hx
 exact zey _
end
def wl (r:List Re):Nat->AV
 | 0=>.lst true .sc []
 | k+1=>.lst false sRe (rvs (ws r (k+1)))
def wt (r:List Re):Nat->AV
 | 0=>.lst true .sc []
 | k+1=>.lst false sB (dgL (P8 (fs (ws r (k+1))) (k+1)))
theorem z7y (r:List Re)(k:Nat):∃f sh,wl r k= .lst f sh (rvs (ws r k))/\Sr (ws r k) sh:=by
 cases k with
 | zero=>exact⟨true,.sc,rfl,.inl rfl⟩
 | succ k=>exact⟨false,sRe,rfl,.inr rfl⟩
theorem z7v (r:List Re)(k:Nat):∃f sh,wt r k= .lst f sh (dgL (P8 (fs (ws r k)) k))/\Sd (P8 (fs (ws r k)) k) sh sB:=by
 cases k with
 | zero=>exact⟨true,.sc,by rw[M.P8_zero];rfl,.inl (M.P8_zero _)⟩
 | succ k=>exact⟨false,sB,rfl,.inr rfl⟩
theorem grow_at [Nonempty (GlK gl)][Nonempty (M.GlB gl)](h:15<=n){r:List Re}{k:Nat}(o:RsOk r (k+1))(f3:Bool)(sh3:Sh)(U:List AV) :
  call gl tab n 16 [.agg [i64 7,wl r k,.agg [i64 k,wt r k],.lst f3 sh3 U],rvAV (toRv (at7 (reat r k) k))] [] =
   some (.tup [.agg [i64 7,wl r (k+1),.agg [i64 (k+1:Nat),wt r (k+1)],.lst f3 sh3 U],i64 0],[],[]):=by
 obtain⟨f,sh,e1,h1⟩:=z7y r k
 obtain⟨f2,sh2,e2,h2⟩:=z7v r k
 have o':RsOk r k:=⟨by have:=o.l;omega,by have:=o.n;omega,fun i hi=>o.s i (by omega),o.r⟩
 have hl:=zfb r k
 have hk:=o.l
 have lt:(P8 (fs (ws r k)) k).length<=60000:=M.P8_le _ (by rw[zb1];omega) (by rw[zb1];omega)
 have c:=@z7p gl n 7 f f2 f3 sh sh2 sh3 (ws r k) (P8 (fs (ws r k)) k) U _ _ h k (toRv (at7 (reat r k) k)) (zn8 (o.R (by omega)) (z2n (o.s k (by omega)) k)) (by omega) h1 rfl (by rw[hl];rfl) (by omega)
  (M.P8_all _ _ (by rw[zb1];omega) o'.all16) h2 (by omega) (M.P8_form (by rw[zb1];omega) (by rw[zb1];omega))
 have e:=z0t (ws r k) (toRv (at7 (reat r k) k))
 rw[zfb]at e
 rw[e]at c
 rw[e1,e2]
 exact c
theorem qbq {l:List Dg}{i:Nat}(hi:i<l.length)(hl:l.length<=60000):ckI (M.dgA l i) i l.length (Mk.incl M.nd M.em l i) (Mk.rt M.nd M.em l)=true:=by
 obtain⟨h1,h2⟩:=@Mk.incl_ok Dg M.nd M.em M.z16 _ l i (Nat.le_refl _) hi
 have e0:M.dgA l i=l.getD i M.em:=by rw[M.dgA,wA,wA,wB hi];rfl
 rw[ckI,decide_eq_true_eq,wE,wE,e0]
 exact⟨by omega,h1,h2⟩
def k7 :Ky:=⟨1007,1,[115],0,1099511627776⟩
theorem k7_v :VK k7:=⟨by decide,by decide,by decide,by decide,by decide⟩
theorem k7_r :VR [k7]:=⟨by decide,fun i hi=>by
 match i,hi with
 | 0,_=>exact⟨k7_v,fun h=>absurd h (by decide)⟩⟩
theorem qae (h:1<=n):call gl tab n 20 [i64 7] []=some (.agg [i64 1007,i64 1,.str [115],i64 0,i64 1099511627776],[],[]):=by
 obtain⟨d,rfl⟩:=wH h
 rw[zaf (fd:=fd20) rfl]
 simp(disch:=apply zq;omega) only[go_sem,simprocAttr,↓Nat.reduceEqDiff,xx,fd20,m20]
theorem z4k (z:Int)(g:Dg){lo hi:Int}(h:cnt k7 lo hi=true):hdC [k7] (hdS k7 ⟨7,z,g,lo,hi,0,zB⟩)=0:=by
 have e:hdP (hdS k7 ⟨7,z,g,lo,hi,0,zB⟩)=hdP (hdK k7 ⟨7,z,g,lo,hi,0,zB⟩):=rfl
 have fn1:fnK [k7] 1007 1=some k7:=rfl
 rw[hdC,if_pos (show zio (hdS k7 ⟨7,z,g,lo,hi,0,zB⟩).site=true from(by decide:zio (7:Int)=true))]
 show ckE [k7] (1000+7) 1 44 (hdP (hdS k7 ⟨7,z,g,lo,hi,0,zB⟩)) (sea k7.k 44 (hdP (hdK k7 ⟨7,z,g,lo,hi,0,zB⟩))) lo hi=0
 unfold ckE
 rw[show(1000+7:Int)=1007 from rfl,fn1,e]
 simp only
 rw[if_pos h,if_pos trivial]
end Go.Proofs.S44.L
namespace Go.Proofs.S44.M
open Go Go.Ev Go.Proofs Go.Mk
open Go.Proofs.S44.H (GlK GlR)
variable {gl :Gl} {n:Nat}
theorem Sd.dropLast {p:List Dg}{sh:Sh}(hs:Sd p sh sB):Sd p.dropLast sh sB:=by
 rcases hs with hs|hs
 . exact Or.inl (by rw[hs];rfl)
 . exact Or.inr hs
section
variable [Nonempty (GlK gl)]
end
end Go.Proofs.S44.M
namespace Go.Proofs.S44.M
open Go Go.Ev Go.Proofs Go.Mk
open Go.Proofs.S44.H (GlK GlR)
variable {gl :Gl} {n:Nat}
section
variable [Nonempty (GlK gl)]
end
end Go.Proofs.S44.M
namespace Go.Proofs.S44.M
open Go Go.Ev Go.Proofs Go.Mk
open Go.Proofs.S44.H (GlK GlR)
variable {gl :Gl} {n:Nat}
section
variable [Nonempty (GlR gl)]
theorem rclimb_at :∀(c:Nat) {n:Nat} {leaf:Dg} (i N:Nat) (f:Bool) (sh:Sh) (p:List Dg),p.length<=c->9+c<=n->leaf.length=16->All16 p->Sd p sh sB->p.length<=1000000->1<=N->N<=1099511627776->i<N ->
  ∃(D:Dg) (ok:Bool),call gl tab n 78 [bAV leaf,i64 i,i64 N,.lst f sh (dgL p)] []=some (.agg [bAV D,.bool ok],[],[])/\D.length=16/\(ok=true↔p.length=dep i N)/\(ok=true->D=cl nd z16 leaf i N p):=by
 intro c
 induction c with
 | zero =>
   intro n leaf i N f sh p hc h hf ha hs hl hN hN2 hi
   obtain⟨d,rfl⟩:∃d,n=d+1:=⟨n-1,by omega⟩
   have hp:p=[]:=wC.1 (by omega)
   subst hp
   have l1:=b16t hf
   have l2:=H.bytes_all leaf
   by_cases h1:N=1
   . subst h1
     refine⟨leaf,true,?_,hf,⟨fun _=>(dep_one (by omega)).symm,fun _=>rfl⟩,fun _=>by rw[cl,dif_neg (by omega)]⟩
     have e1:(((1:Nat)):Int)=1:=rfl
     have e0:dgL []=[]:=rfl
     rw[zaf (fd:=fd78) rfl]
     simp(disch:=apply zq;omega) only[go_sem,simprocAttr,↓Nat.reduceEqDiff,xx,fd78,m78,↓out16_eq,e0,e1,l1,l2,hf,H.oo,zab]
   . refine⟨z16,false,?_,rfl,⟨(fun h=>by cases h),fun h=> ?_⟩,(fun h=>by cases h)⟩
     . have e0:dgL []=[]:=rfl
       rw[zaf (fd:=fd78) rfl]
       show _=some (AV.agg [.agg H.out16l,_],_,_)
       simp(disch:=apply zq;omega) only[go_sem,simprocAttr,↓Nat.reduceEqDiff,xx,fd78,m78,↓out16_eq,e0,l1,l2,hf,H.oo,zab]
     . have h0:dep i N≠0:=by
        rw[dep,dif_pos (by omega)];omega
       exact absurd h.symm h0
 | succ c ih =>
   intro n leaf i N f sh p hc h hf ha hs hl hN hN2 hi
   obtain⟨d,rfl⟩:∃d,n=d+1:=⟨n-1,by omega⟩
   have l1:=b16t hf
   have l2:=H.bytes_all leaf
   have hL:=dgL_length p
   by_cases h1:N=1
   . subst h1
     have e1:(((1:Nat)):Int)=1:=rfl
     refine⟨leaf,decide (p.length=0),?_,hf,⟨fun h=> ?_,fun h=> ?_⟩,fun _=>by rw[cl,dif_neg (by omega)]⟩
     . rw[zaf (fd:=fd78) rfl]
       by_cases h0:p.length=0
       . rw[decide_eq_true h0]
         simp(disch:=apply zq;omega) only[go_sem,simprocAttr,↓Nat.reduceEqDiff,xx,fd78,m78,↓out16_eq,hL,e1,l1,l2,hf,H.oo,zab]
       . rw[decide_eq_false h0]
         simp(disch:=apply zq;omega) only[go_sem,simprocAttr,↓Nat.reduceEqDiff,xx,fd78,m78,↓out16_eq,hL,e1,l1,l2,hf,H.oo,zab]
     . rw[of_decide_eq_true h,dep_one (by omega)]
     . rw[dep_one (by omega)]at h
       exact decide_eq_true h
   have h2:2<=N:=by omega
   by_cases hp:p=[]
   . subst hp
     refine⟨z16,false,?_,rfl,⟨(fun h=>by cases h),fun h=> ?_⟩,(fun h=>by cases h)⟩
     . have e0:dgL []=[]:=rfl
       rw[zaf (fd:=fd78) rfl]
       show _=some (AV.agg [.agg H.out16l,_],_,_)
       simp(disch:=apply zq;omega) only[go_sem,simprocAttr,↓Nat.reduceEqDiff,xx,fd78,m78,↓out16_eq,e0,l1,l2,hf,H.oo,zab]
     . have h0:dep i N≠0:=by
        rw[dep,dif_pos (by omega)];omega
       exact absurd h.symm h0
   have hp0:p.length≠0:=fun e=>hp (wC.1 e)
   obtain rfl:sh=sB:=hs.resolve_left hp
   have hk:=zej h2
   have hpos:=zdz N
   have k:=@zyy gl d (by omega) N h2 (by omega)
   have hA:=dgL_at (l:=p) (i:=p.length-1) (by omega)
   rw[zf4 z16 hp]at hA
   have hD:=zgx p
   have q1:=zgs ha
   have q2:=H.bytes_all (p.getLastD z16)
   have hdl:p.dropLast.length=p.length-1:=List.length_dropLast
   have c1:(p.length:Int)-1=((p.length-1:Nat):Int):=by omega
   by_cases hlo:i<spl N
   . obtain⟨D,ok,a,g1,g2,g3⟩:=@ih d leaf i (spl N) (f&&(p.length-1==p.length)) sB p.dropLast (by omega) (by omega) hf ha.dropLast (.inr rfl) (by omega) (by omega) (by omega) hlo
     have nd1:=@zt4 gl d _ (by omega) D (p.getLastD z16) g1 q1
     have nl:=zfh D (p.getLastD z16)
     have nq:=H.bytes_all (nd D (p.getLastD z16))
     have gq:=H.bytes_all D
     refine⟨nd D (p.getLastD z16),ok,?_,nl,?_,?_⟩
     . clear ih g2 g3 hs ha
       generalize nd D (p.getLastD z16)=r at *
       generalize p.getLastD z16=last at *
       generalize p.dropLast=p' at *
       obtain⟨w,hw⟩:∃w,p.length=w+1:=⟨p.length-1,by omega⟩
       rw[hw]at hL hA hD a hdl
       rw[wG]at hA hD a hdl
       rw[zaf (fd:=fd78) rfl]
       simp(maxSteps:=1000000) (disch:=apply zq;omega) only[go_sem,simprocAttr,↓Nat.reduceEqDiff,xx,fd78,m78,↓out16_eq,hL,hA,hD,k,a,nd1,l1,l2,hf,q1,q2,g1,gq,nl,nq,zd0,wI,wD,wG,H.oo,zab]
     . rw[g2,z1y h2 hlo,hdl];omega
     . intro hok
       rw[cl,dif_pos h2,if_pos hlo,g3 hok]
   . obtain⟨D,ok,a,g1,g2,g3⟩:=@ih d leaf (i-spl N) (N-spl N) (f&&(p.length-1==p.length)) sB p.dropLast (by omega) (by omega) hf ha.dropLast (.inr rfl) (by omega) (by omega) (by omega) (by omega)
     have nd1:=@zt4 gl d _ (by omega) (p.getLastD z16) D q1 g1
     have nl:=zfh (p.getLastD z16) D
     have nq:=H.bytes_all (nd (p.getLastD z16) D)
     have gq:=H.bytes_all D
     have e1:(i:Int)-(spl N:Int)=((i-spl N:Nat):Int):=by omega
     have e2:(N:Int)-(spl N:Int)=((N-spl N:Nat):Int):=by omega
     rw[<-e1,<-e2]at a
     refine⟨nd (p.getLastD z16) D,ok,?_,nl,?_,?_⟩
     . clear ih g2 g3 hs ha
       generalize nd (p.getLastD z16) D=r at *
       generalize p.getLastD z16=last at *
       generalize p.dropLast=p' at *
       obtain⟨w,hw⟩:∃w,p.length=w+1:=⟨p.length-1,by omega⟩
       rw[hw]at hL hA hD a hdl
       rw[wG]at hA hD a hdl
       clear e1 e2
       generalize spl N=z at *
       rw[zaf (fd:=fd78) rfl]
       simp(maxSteps:=1000000) (disch:=apply zq;omega) only[go_sem,simprocAttr,↓Nat.reduceEqDiff,xx,fd78,m78,↓out16_eq,hL,hA,hD,k,a,nd1,l1,l2,hf,q1,q2,g1,gq,nl,nq,zd0,wI,wD,wG,H.oo,zab]
     . rw[g2,z1z h2 hlo,hdl];omega
     . intro hok
       rw[cl,dif_pos h2,if_neg hlo,g3 hok]
end
end Go.Proofs.S44.M
namespace Go.Proofs.S44.M
open Go Go.Ev Go.Proofs Go.Mk
open Go.Proofs.S44.H (GlK GlR)
variable {gl :Gl} {n:Nat}
section
variable [Nonempty (GlR gl)]
end
end Go.Proofs.S44.M
namespace Go.Proofs.S44.L
open Go Go.Ev Go.Proofs Go.Proofs.S44
open Go.Proofs.S44.H (strsAV zaa zaj Sml GlK GlR)
open Go.Proofs.S44.M (lf zde Dg dgL dgL_length All16 Sd sB pkAV grw)
variable {gl :Gl} {n:Nat}
section
variable {leaf old root:Dg} {i m N:Int} {f:Bool} {sh:Sh} {p:List Dg}
theorem z9h [Nonempty (GlR gl)](h:2000<=n)(hf:leaf.length=16)(hr:root.length=16)(ha:All16 p)(hl:p.length<=1000)(hs:Sd p sh sB) :
  call gl tab n 25 [bAV leaf,i64 i,i64 N,.lst f sh (dgL p),bAV root] []=some (.bool (ckI leaf i N p root),[],[]):=by
 obtain⟨d,rfl⟩:=wH h
 have l1:=b16 hf
 have l2:=H.bytes_all leaf
 have r1:=b16 hr
 have r2:=H.bytes_all root
 rw[zaf (fd:=fd25) rfl]
 by_cases hb:N<1\/N>1099511627776\/i<0\/i>=N
 . rw[ckI,decide_eq_false (fun h=>h.1 hb)]
   by_cases h1:N<1
   . simp(disch:=apply zq;omega) only[go_sem,simprocAttr,↓Nat.reduceEqDiff,xx,fd25,m25,↓out16_eq,l1,l2,r1,r2,H.oo]
   by_cases h2:N>1099511627776
   . simp(disch:=apply zq;omega) only[go_sem,simprocAttr,↓Nat.reduceEqDiff,xx,fd25,m25,↓out16_eq,l1,l2,r1,r2,H.oo]
   by_cases h3:i<0
   . simp(disch:=apply zq;omega) only[go_sem,simprocAttr,↓Nat.reduceEqDiff,xx,fd25,m25,↓out16_eq,l1,l2,r1,r2,H.oo]
   have h4:i>=N:=by omega
   simp(disch:=apply zq;omega) only[go_sem,simprocAttr,↓Nat.reduceEqDiff,xx,fd25,m25,↓out16_eq,l1,l2,r1,r2,H.oo]
 . obtain⟨i,rfl⟩:=wF (show 0<=i by omega)
   obtain⟨N,rfl⟩:=wF (show 0<=N by omega)
   obtain⟨D,ok,c,g1,g2,g3⟩:=M.rclimb_at (gl:=gl) 1000 (n:=d+1999) i N f sh p hl (by omega) hf ha hs (by omega) (by omega) (by omega) (by omega)
   have q:=eqB g1 hr
   have gq:=H.bytes_all D
   have e:ckI leaf (i:Int) (N:Int) p root=(ok&&decide (D=root)):=by
    rw[ckI,Bool.eq_iff_iff,decide_eq_true_eq,Bool.and_eq_true,decide_eq_true_eq,wE,wE]
    constructor
    . rintro ⟨_,h1,h2⟩
      have:=g2.2 h1
      exact⟨this,by rw[g3 this];exact h2⟩
    . rintro ⟨h1,h2⟩
      exact⟨hb,g2.1 h1,by rw[<-g3 h1];exact h2⟩
   rw[e]
   clear e g2 g3
   cases ok
   . simp(disch:=apply zq;omega) only[go_sem,simprocAttr,↓Nat.reduceEqDiff,xx,fd25,m25,↓out16_eq,l1,l2,r1,r2,c,g1,gq,hr,q,zab,H.oo]
   . simp(disch:=apply zq;omega) only[go_sem,simprocAttr,↓Nat.reduceEqDiff,xx,fd25,m25,↓out16_eq,l1,l2,r1,r2,c,g1,gq,hr,q,zab,H.oo]
end
end Go.Proofs.S44.L
namespace Go.Proofs.S44.M
open Go Go.Ev Go.Proofs Go.Mk Go.Proofs.S44
theorem incl_all :∀(c:Nat) (l:List Dg) (i:Nat),l.length<=c->All16 l->All16 (incl nd em l i)
 | 0,l,i,h,ha=>by rw[ze0 (by omega)];exact All16.nil
 | c+1,l,i,h,ha=>by
   by_cases h2:2<=l.length
   . have hk:=zej h2
     have hp:=zdz l.length
     by_cases hi:i<spl l.length
     . rw[zl5 h2 hi]
       exact(incl_all c _ i (by rw[List.length_take];omega) (ha.take _)).app (.one (zlc (ha.drop _)))
     . rw[zl6 h2 hi]
       exact(incl_all c _ _ (by rw[List.length_drop];omega) (ha.drop _)).app (.one (zlc (ha.take _)))
   . rw[ze0 (by omega)];exact All16.nil
end Go.Proofs.S44.M
