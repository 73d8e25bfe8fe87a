/-
  Chapter 44, the law on what a ledger proves. No condition.
-/
import Derived.Test.YtcddalfeicoedaaDoorW94V2
import Derived.Test.YtcddalfeicoedaaDoorW94G16x3
import Derived.Test.YtcddalfeicoedaaDoorW94G5x3
import Derived.Test.YtcddalfeicoedaaDoorCards
import Derived.Test.YtcddalfeicoedaaDoorTie
import Derived.ProofKit
import Derived.OpenShut
import Derived.Deep.DeepHandedRow
import Derived.Lib.LaidTab
import Derived.MakeChecks
set_option linter.all false
open List renaming length_map->wA,mem_cons_of_mem->wB,mem_cons_self->wC
namespace Go.Proofs.S94.L
open Go Go.Ev Go.Proofs Go.Proofs.S94
open Go.Proofs.S94.H (GlK)
open Go.Proofs.S94.M (dgL sB P8)
variable {gl :Gl} {n:Nat}
theorem zy3 (y z:Nat)(h:0<z):zau .rem .i64 (y:Int) (z:Int)=some (i64 ((y%z:Nat):Int)):=by
 show(if(z:Int)=0 then none else some (AV.int .i64 (Int.tmod (y:Int) z)))=_
 rw[if_neg (by omega),Int.ofNat_tmod]
theorem z9l {s:Nat}{r:List Re}{N i:Nat}(hi:i<(gs s r N).length):∃j,j<N/\hdat (gs s r N) i=h7 r j:=zrb s r N _ (zcr hi)
theorem z0v {s:Nat}{r:List Re}{N:Nat}:∀(d i:Nat),i+d<(gs s r N).length->(hdat (gs s r N) i).size<=(hdat (gs s r N) (i+d)).size
 | 0,i,h=>Int.le_refl _
 | d+1,i,h=>by
   have h1:=z0v (s:=s) (r:=r) (N:=N) d i (by omega)
   obtain⟨_,_,_,_,h5⟩:=(z9m s r N).2.2.2 (i+(d+1)) h
   have h2:=(h5 (by omega)).1
   rw[show i+(d+1)-1=i+d by omega]at h2
   exact Int.le_trans h1 h2
theorem qgz {s:Nat}{r:List Re}{N i k a b:Nat}(hik:i<=k)(hk:k<(gs s r N).length)(ha:hdat (gs s r N) i=h7 r a)(hb:hdat (gs s r N) k=h7 r b):a<=b:=by
 have h:=z0v (s:=s) (r:=r) (N:=N) (k-i) i (by omega)
 rw[show i+(k-i)=k by omega,ha,hb,zdm,zdm]at h
 omega
def L3a :MC:=match m3 with| .seq _ (.seq _ (.seq _ (.seq _ (.seq (.seq _ (.block _ (.loop _ b))) _))))=>b|_=>.skip
def L3o :MC:=match m3 with| .seq _ (.seq _ (.seq _ (.seq _ (.seq _ (.seq _ (.seq (.seq _ (.block _ (.loop _ b))) _))))))=>b|_=>.skip
def L3p :MC:=match m3 with| .seq _ (.seq _ (.seq _ (.seq _ (.seq _ (.seq _ (.seq (.seq _ (.block _ (.loop _ (.seq _ (.seq (.block _ (.seq (.seq _ (.block _ (.loop _ b))) _)) _))))) _))))))=>b|_=>.skip
def L3c :MC:=match m3 with| .seq _ (.seq _ (.seq _ (.seq _ (.seq _ (.seq _ (.seq (.seq _ (.block _ (.loop _ (.seq _ (.seq (.block _ (.seq _ (.seq _ (.block _ (.loop _ b))))) _))))) _))))))=>b|_=>.skip
def S3a (r:List Re)(p:Nat)(i:Nat):St:=⟨[.set 7 (i64 i),.set 5 (.ptr 5 []),.set 1 (.int .u8 p),.set 0 (.lst false sRe (rvs (r.map toRv)))],[(5,.fix sLd (.agg [i64 7,wl r i,.agg [i64 i,wt r i],gl7 (1+p%4) r i]))]⟩
section
variable {r :List Re} {p d i:Nat}
set_option maxHeartbeats 1000000 in
theorem z55 [Nonempty (GlK gl)][Nonempty (M.GlB gl)](hd:20<=d)(hl:r.length<=12)(hp:p<256)(hi:i<r.length)(ro:RsOk r (i+1))(c:call gl tab d 6 [rvAV (toRv (reat r i))] []=some (.bool true,[],[])) :
  zb1 [.slot 0,.slot 1,.slot 5,.slot 7,.key 5] (evC gl (call gl tab d) L3a (S3a r p i))=some (S3a r p (i+1)):=by
 have hx:=zmw (l:=r.map toRv) (i:=i) (by rw[wA];exact hi)
 rw[zud hi]at hx
 have hL:=zbl (r.map toRv)
 rw[wA]at hL
 have h1:=zn7 (ro.r _ (zkf hi))
 obtain⟨f3,sh3,e7,_⟩:=zu2 (1+p%4) r i
 have g:=grow_at (gl:=gl) (n:=d) (by omega) ro f3 sh3 (hds (gs (1+p%4) r i))
 have ck:=@zz5 gl d (by omega)
 have eK:ky k7= .agg [i64 1007,i64 1,.str [115],i64 0,i64 1099511627776]:=rfl
 have r4:=zy3 p 4 (by omega)
 have rs:=zy3 i (1+p%4) (by omega)
 have ec:((1+p%4:Nat):Int)=1+((p%4:Nat):Int):=by omega
 rw[ec]at rs
 replace r4:zau .rem .i64 (p:Int) 4=some (i64 ((p%4:Nat):Int)):=r4
 have p4:p%4<4:=Nat.mod_lt _ (by omega)
 have e3:wl r (i+1)= .lst false sRe (rvs (ws r (i+1))):=rfl
 have e4:wt r (i+1)= .lst false sB (dgL (P8 (fs (ws r (i+1))) (i+1))):=rfl
 have e8:gl7 (1+p%4) r (i+1)= .lst false sHd (hds (gs (1+p%4) r (i+1))):=rfl
 have e5:rvAV (toRv (at7 (reat r i) i))= .agg (i64 7::i64 i::(toRv (reat r i)).r):=rfl
 obtain⟨f,sh,e1,_⟩:=z20 r i
 obtain⟨f2,sh2,e2,_⟩:=z2x r i
 by_cases hs:i%(1+p%4)=0
 . have hq:=z9h (gl:=gl) (n:=d) (by omega) ro hs
   rw[e7,eK,show((i+1:Nat):Int)=(i:Int)+1 by omega]at hq
   have u1:=b16 (zmn ro).r
   have u2:=b16 (zmn ro).s
   have w1:=H.bytes_all (h7 r i).root
   have w2:=H.bytes_all (h7 r i).sgn
   rw[hs]at rs
   rw[S3a,S3a,e8]
   rw[e3,e4,e1,e2,e5]at g
   rw[e3,e4,e1,e2,e7]
   clear e3 e4 e1 e2 e5 e7 e8 eK ro ec
   generalize p%4=p' at *
   generalize h7 r i=y7 at *
   generalize toRv (reat r i)=y at *
   generalize rvs (ws r i)=a1 at *
   generalize rvs (ws r (i+1))=a2 at *
   generalize dgL (P8 (fs (ws r i)) i)=a3 at *
   generalize dgL (P8 (fs (ws r (i+1))) (i+1))=a4 at *
   generalize hds (gs (1+p') r i)=a6 at *
   generalize hds (gs (1+p') r (i+1))=a7 at *
   generalize rvs (r.map toRv)=a5 at *
   simp(maxSteps:=1000000) (disch:=apply zq;omega) only[go_sem,simprocAttr,↓Nat.reduceEqDiff,xx,L3a,m3,↓out16_eq,H.oo,hx,hL,h1,c,g,ck,r4,rs,hq,u1,u2,w1,w2]
 . have hz:(((i%(1+p%4):Nat):Int)==0)=false:=by rw[beq_eq_false_iff_ne];omega
   have e9:gl7 (1+p%4) r i= .lst false sHd (hds (gs (1+p%4) r i)):=by
    obtain⟨m,hm⟩:∃m,i=m+1:=⟨i-1,by
     have:i≠0:=fun e=>hs (by rw[e];exact Nat.zero_mod _)
     omega⟩
    rw[hm];rfl
   rw[e9]at e7
   obtain⟨rfl,rfl,_⟩:=AV.lst.inj e7
   rw[S3a,S3a,e8,gs_n hs,e9]
   rw[e3,e4,e1,e2,e5]at g
   rw[e3,e4,e1,e2]
   clear e3 e4 e1 e2 e5 e7 e8 e9 eK ro ec hs
   generalize p%4=p' at *
   generalize i%(1+p')=q at *
   generalize toRv (reat r i)=y at *
   generalize rvs (ws r i)=a1 at *
   generalize rvs (ws r (i+1))=a2 at *
   generalize dgL (P8 (fs (ws r i)) i)=a3 at *
   generalize dgL (P8 (fs (ws r (i+1))) (i+1))=a4 at *
   generalize hds (gs (1+p') r i)=a6 at *
   generalize rvs (r.map toRv)=a5 at *
   simp(maxSteps:=1000000) (disch:=apply zq;omega) only[go_sem,simprocAttr,↓Nat.reduceEqDiff,xx,L3a,m3,↓out16_eq,H.oo,hx,hL,h1,c,g,ck,r4,rs,hz]
theorem qhg (hd:20<=d)(hl:r.length<=12)(hi:i<r.length)(rr:∀y∈r,ReR y)(c:call gl tab d 6 [rvAV (toRv (reat r i))] []=some (.bool false,[],[]))(ca:call gl tab d 4 [] []=some (.bool true,[],[])) :
  out1 4 (evC gl (call gl tab d) L3a (S3a r p i))=some (.ret,.bool true):=by
 have hx:=zmw (l:=r.map toRv) (i:=i) (by rw[wA];exact hi)
 rw[zud hi]at hx
 have hL:=zbl (r.map toRv)
 rw[wA]at hL
 have h1:=zn7 (rr _ (zkf hi))
 obtain⟨f,sh,e1,_⟩:=z20 r i
 obtain⟨f2,sh2,e2,_⟩:=z2x r i
 obtain⟨f3,sh3,e7,_⟩:=zu2 (1+p%4) r i
 rw[S3a,e1,e2,e7]
 generalize toRv (reat r i)=y at *
 generalize rvs (r.map toRv)=a5 at *
 simp(disch:=apply zq;omega) only[go_sem,simprocAttr,↓Nat.reduceEqDiff,xx,L3a,m3,↓out16_eq,H.oo,hx,hL,h1,c,ca]
end
def eL (s:Nat)(r:List Re)(N:Nat):AV:=.agg [i64 7,.lst false sRe (rvs (ws r N)),.agg [i64 N,.lst false sB (dgL (P8 (fs (ws r N)) N))],.lst false sHd (hds (gs s r N))]
def rgO :OB:=.grow sY [.agg [i64 1007,i64 1,.str [115],i64 0,i64 1099511627776]]
def S3o (s:Nat)(r:List Re)(N i:Nat):St:=⟨[.set 11 (i64 i),.set 10 (.sl 80 [] 0 1),.set 5 (.ptr 5 [])],[(80,rgO),(5,.fix sLd (eL s r N))]⟩
def S3p (t s:Nat)(r:List Re)(N i k:Nat):St:=⟨[.set t (i64 k),.set 11 (i64 i),.set 10 (.sl 80 [] 0 1),.set 5 (.ptr 5 [])],[(80,rgO),(5,.fix sLd (eL s r N))]⟩
section
variable {r :List Re} {s N d i k:Nat}
theorem qbz [Nonempty (GlK gl)](hd:1001<=d)(o:RsOk r N)(hN:N<=800)(hi:i<(gs s r N).length){j:Nat}(hj:hdat (gs s r N) i=h7 r j)(hjN:j<N)(hk:k<j+1) :
  zb1 [.slot 5,.slot 10,.slot 11,.slot 12,.key 5,.key 80] (evC gl (call gl tab d) L3p (S3p 12 s r N i k))=some (S3p 12 s r N i (k+1)):=by
 have hy:=zgr hi
 have hg:=zcr hi
 rw[hj]at hy hg
 obtain⟨p,c1,c2⟩:=z7v (gl:=gl) (n:=d) hd o hN hg hjN (show k<=j by omega)
 have oj:=o.lt (show j+1<=N by omega)
 have hok:=zmn oj
 have u1:=b16 hok.r
 have u2:=b16 hok.s
 have w1:=H.bytes_all (h7 r j).root
 have w2:=H.bytes_all (h7 r j).sgn
 have hz:=zdm r j
 have hLh:=zb2 (gs s r N)
 have gl':=zil s r N
 have sh1:=zn7 (oj.R (show k<j+1 by omega))
 have e1:rvAV (toRv (at7 (reat r k) k))= .agg (i64 7::i64 k::(toRv (at7 (reat r k) k)).r):=rfl
 have eK:ky k7= .agg [i64 1007,i64 1,.str [115],i64 0,i64 1099511627776]:=rfl
 rw[e1]at c1 c2
 rw[eK]at c2
 rw[S3p,S3p,eL,rgO]
 clear hok hg hj eK e1
 generalize toRv (at7 (reat r k) k)=v at *
 generalize h7 r j=y at *
 generalize dgL p=l4 at *
 generalize rvs (ws r N)=l1 at *
 generalize dgL (P8 (fs (ws r N)) N)=l2 at *
 generalize hds (gs s r N)=l3 at *
 simp(maxSteps:=1000000) (disch:=apply zq;omega) only[go_sem,simprocAttr,↓Nat.reduceEqDiff,xx,L3p,m3,↓out16_eq,H.oo,hy,hLh,u1,u2,w1,w2,c1,c2,sh1]
theorem qb1 [Nonempty (GlK gl)](hd:1001<=d)(o:RsOk r N)(hN:N<=800)(hik:i<=k)(hk:k<(gs s r N).length) :
  zb1 [.slot 5,.slot 10,.slot 11,.slot 15,.key 5,.key 80] (evC gl (call gl tab d) L3c (S3p 15 s r N i k))=some (S3p 15 s r N i (k+1)):=by
 obtain⟨a,ha,ea⟩:=z9l (show i<(gs s r N).length by omega)
 obtain⟨b,hb,eb⟩:=z9l hk
 have hy:=zgr (show i<(gs s r N).length by omega)
 have hg:=zcr (show i<(gs s r N).length by omega)
 have hy2:=zgr hk
 have hg2:=zcr hk
 rw[ea]at hy hg
 rw[eb]at hy2 hg2
 obtain⟨p,c1,c2,c3⟩:=z5l (gl:=gl) (n:=d) hd o hN hg hg2 (qgz hik hk ea eb) hb
 have ok1:=zmn (o.lt (show a+1<=N by omega))
 have ok2:=zmn (o.lt (show b+1<=N by omega))
 have u1:=b16 ok1.r
 have u2:=b16 ok1.s
 have u3:=b16 ok2.r
 have u4:=b16 ok2.s
 have w1:=H.bytes_all (h7 r a).root
 have w2:=H.bytes_all (h7 r a).sgn
 have w3:=H.bytes_all (h7 r b).root
 have w4:=H.bytes_all (h7 r b).sgn
 have hLh:=zb2 (gs s r N)
 have gl':=zil s r N
 have eK:ky k7= .agg [i64 1007,i64 1,.str [115],i64 0,i64 1099511627776]:=rfl
 rw[eK]at c2 c3
 rw[S3p,S3p,eL,rgO]
 clear ok1 ok2 hg hg2 ea eb eK
 generalize h7 r a=y at *
 generalize h7 r b=y2 at *
 generalize dgL p=l4 at *
 generalize rvs (ws r N)=l1 at *
 generalize dgL (P8 (fs (ws r N)) N)=l2 at *
 generalize hds (gs s r N)=l3 at *
 simp(maxSteps:=1000000) (disch:=apply zq;omega) only[go_sem,simprocAttr,↓Nat.reduceEqDiff,xx,L3c,m3,↓out16_eq,H.oo,hy,hy2,hLh,u1,u2,u3,u4,w1,w2,w3,w4,c1,c2,c3]
theorem qb0 [Nonempty (GlK gl)](hd:1001<=d)(o:RsOk r N)(hN:N<=800)(hi:i<(gs s r N).length) :
  zb1 [.slot 5,.slot 10,.slot 11,.key 5,.key 80] (evC gl (call gl tab d) L3o (S3o s r N i))=some (S3o s r N (i+1)):=by
 obtain⟨j,hjN,hj⟩:=z9l hi
 have hy:=zgr hi
 rw[hj]at hy
 have hok:=zmn (o.lt (show j+1<=N by omega))
 have u1:=b16 hok.r
 have u2:=b16 hok.s
 have w1:=H.bytes_all (h7 r j).root
 have w2:=H.bytes_all (h7 r j).sgn
 have hz:=zdm r j
 have hLh:=zb2 (gs s r N)
 have gl':=zil s r N
 clear hok
 have st1:=fun k hk=>qbz (gl:=gl) (s:=s) (d:=d) (k:=k) hd o hN hi hj hjN hk
 have st2:=fun k hik hk=>qb1 (gl:=gl) (s:=s) (d:=d) (i:=i) (k:=k) hd o hN hik hk
 simp only[L3p,L3c,m3,↓out16_eq]at st1 st2
 clear hj
 generalize h7 r j=y at *
 rw[S3o,eL,rgO]
 simp(maxSteps:=1000000) (disch:=apply zq;omega) only[go_sem,simprocAttr,↓Nat.reduceEqDiff,xx,L3o,m3,↓out16_eq,H.oo,hLh]
 rw[zao (S3p 12 s r N i) (j+1) (by unfold LF;omega)]
 . rw[S3p,eL,rgO]
   simp(maxSteps:=1000000) (disch:=apply zq;omega) only[go_sem,simprocAttr,↓Nat.reduceEqDiff,xx,hy,hLh,u1,u2,w1,w2]
   rw[zao (fun q=>S3p 15 s r N i (i+q)) ((gs s r N).length-i) (by unfold LF;omega)]
   . rw[show i+((gs s r N).length-i)=(gs s r N).length by omega,S3p,S3o,eL,rgO]
     simp(maxSteps:=1000000) (disch:=apply zq;omega) only[go_sem,simprocAttr,↓Nat.reduceEqDiff,xx,hLh]
   . rw[Nat.add_zero,S3p,eL,rgO];simp(maxSteps:=1000000) (disch:=apply zq;omega) only[go_sem,simprocAttr,↓Nat.reduceEqDiff,xx,hLh]
   . intro q hq
     exact st2 (i+q) (by omega) (by omega)
   . rw[show i+((gs s r N).length-i)=(gs s r N).length by omega,S3p,eL,rgO]
     simp(maxSteps:=1000000) (disch:=apply zq;omega) only[go_sem,simprocAttr,↓Nat.reduceEqDiff,xx,hLh]
 . rw[S3p,eL,rgO];simp(maxSteps:=1000000) (disch:=apply zq;omega) only[go_sem,simprocAttr,↓Nat.reduceEqDiff,xx,hLh]
 . exact st1
 . rw[S3p,eL,rgO]
   simp(maxSteps:=1000000) (disch:=apply zq;omega) only[go_sem,simprocAttr,↓Nat.reduceEqDiff,xx,hy,hLh,u1,u2,w1,w2]
end
theorem qf9 {a:AV}(h:HasKd (.sl kRe) a):∃r:List Re,a= .lst false sRe (rvs (r.map toRv))/\r.length<=ML/\∀y∈r,ReR y:=by
 obtain⟨l,rfl,h21,h22⟩:=h
 obtain⟨r,rfl,hr⟩:=z6b h22
 exact⟨r,rfl,by rw[zbl,wA]at h21;exact zss h21,hr⟩
theorem zx6 [Nonempty (GlK gl)][Nonempty (M.GlB gl)](hn:830<=n)(s:Nat){r:List Re}{N:Nat}(o:RsOk r N)(hN:N<=800) :
  call gl tab n 15 [.agg [i64 7,wl r N,.agg [i64 N,wt r N],gl7 s r N]] []=some (.bool true,[],[]):=by
 obtain⟨f,sh,e1,h1⟩:=z20 r N
 obtain⟨f2,sh2,e2,h2⟩:=z2x r N
 obtain⟨f3,sh3,e3,h3⟩:=zu2 s r N
 have wl':=zbd r N
 have gl':=zil s r N
 obtain⟨b,c,hb⟩:=@zza gl n 7 N f f2 f3 sh sh2 sh3 (ws r N) (P8 (fs (ws r N)) N) (gs s r N) _ _ hn h1 (by omega) o.ok (by omega) (M.P8_le _ (by rw[zas];omega) (by rw[zas];omega)) (M.P8_all _ _ (by rw[zas];omega) o.all16) h2 h3 (by omega) (z4r o)
 rw[hb.2 (z9m s r N)]at c
 rw[e1,e2,e3]
 exact c
set_option maxHeartbeats 2000000 in
theorem law3 [Nonempty (GlK gl)][Nonempty (M.GlB gl)](hn:2010<=n)(ar:List AV)(h:HasKds [.sl kRe,.int .u8] ar):call gl tab (n+1) 3 ar []=some (.bool true,[],[]):=by
 simp only[HasKds]at h
 obtain⟨_,_,rfl,h1,_,_,rfl,h2,rfl⟩:=h
 obtain⟨r,rfl,rl,rr⟩:=qf9 h1
 obtain⟨b,rfl⟩:=z2h h2
 clear h1 h2
 have hp:=b.toNat_lt
 generalize b.toNat=p at *
 have ca:=@zys gl n _ _ (by omega)
 unfold ML at rl
 have hL:(rvs (r.map toRv)).length=r.length:=by rw[zbl,wA]
 by_cases g1:r.length<=12
 rotate_left
 . generalize rvs (r.map toRv)=l at *
   rw[zae (fd:=fd3) rfl]
   simp(maxSteps:=1000000) (disch:=apply zq;omega) only[go_sem,simprocAttr,↓Nat.reduceEqDiff,xx,fd3,m3,↓out16_eq,ca,hL,H.oo]
 obtain⟨B,hB⟩:=z8h (N:=r.length) (P:=fun i b=>call gl tab n 6 [rvAV (toRv (reat r i))] []=some (.bool b,[],[])/\(b=true->ReS (reat r i))) fun i hi=>by
  obtain⟨b,hb,c⟩:=@qdw gl n (by omega) (reat r i) (rr _ (zkf hi))
  exact⟨b,by rw[z68];exact c,hb⟩
 have cn:=@zzn gl n (by omega) 7
 rw[if_pos (by decide),if_pos (by decide)]at cn
 rcases zce (fun i=>B i=true) r.length with hA|⟨q,hq,hb',he⟩
 rotate_left
 . have e1:B q=false:=by cases h:B q<;>simp_all
   obtain⟨st',hs1,hg⟩:=zds (@qhg gl r p n q (by omega) g1 hq rr (by have:=(hB q hq).1;rw[e1]at this;exact this) ca)
   have hs2:=fun i (hi:i<q)=>@z55 gl r p n i _ _ (by omega) g1 hp (by omega) ⟨by omega,by omega,fun j hj=>(hB j (by omega)).2 (hb' j (by omega)),rr⟩ (by have:=(hB i (by omega)).1;rw[hb' i hi]at this;exact this)
   simp only[L3a,m3,↓out16_eq]at hs1 hs2
   clear hB hb' he e1
   rw[zae (fd:=fd3) rfl]
   simp(maxSteps:=1000000) (disch:=apply zq;omega) only[go_sem,simprocAttr,↓Nat.reduceEqDiff,xx,fd3,m3,↓out16_eq,ca,cn,hL,H.oo]
   rw[zao (S3a r p) q (by unfold LF;omega),hs1]
   . simp(disch:=apply zq;omega) only[go_sem,simprocAttr,↓Nat.reduceEqDiff,xx,hg]
   . rw[S3a];simp(disch:=apply zq;omega) only[go_sem,simprocAttr,↓Nat.reduceEqDiff,xx,hL,wl,wt,gl7]
   . exact hs2
   . rw[hs1];rfl
 have o:RsOk r r.length:=⟨by omega,Nat.le_refl _,fun j hj=>(hB j hj).2 (hA j hj),rr⟩
 have hs2:=fun i (hi:i<r.length)=>@z55 gl r p n i _ _ (by omega) g1 hp hi ⟨by omega,by omega,fun j hj=>(hB j (by omega)).2 (hA j (by omega)),rr⟩ (by have:=(hB i hi).1;rw[hA i hi]at this;exact this)
 simp only[L3a,m3,↓out16_eq]at hs2
 have st3:=fun i hi=>qb0 (gl:=gl) (s:=1+p%4) (d:=n) (i:=i) (by omega) o (by omega) hi
 simp only[L3o,m3,↓out16_eq]at st3
 have cv:=zx6 (gl:=gl) (n:=n) (by omega) (1+p%4) o (by omega)
 have ck:=@zz5 gl n (by omega)
 have hLh:=zb2 (gs (1+p%4) r r.length)
 have gl':=zil (1+p%4) r r.length
 clear hB hA
 rw[zae (fd:=fd3) rfl]
 simp(maxSteps:=1000000) (disch:=apply zq;omega) only[go_sem,simprocAttr,↓Nat.reduceEqDiff,xx,fd3,m3,↓out16_eq,ca,cn,hL,H.oo]
 rw[zao (S3a r p) r.length (by unfold LF;omega)]
 . by_cases h0:r.length=0
   . rw[h0]at cv ⊢
     rw[S3a]
     simp only[wl,wt,gl7]at cv ⊢
     replace cv:call gl tab n 15 [.agg [i64 7,.lst true .sc [],.agg [i64 0,.lst true .sc []],.lst true .sc []]] []=some (.bool true,[],[]):=cv
     simp(maxSteps:=1000000) (disch:=apply zq;omega) only[go_sem,simprocAttr,↓Nat.reduceEqDiff,xx,hL,ca,ck]
     rw[zao (fun _=>⟨[.set 11 (i64 0),.set 10 (.sl 80 [] 0 1),.set 5 (.ptr 5 [])],[(80,rgO),(5,.fix sLd (.agg [i64 7,.lst true .sc [],.agg [i64 0,.lst true .sc []],.lst true .sc []]))]⟩) 0 (by unfold LF;omega)]
     . rw[rgO];simp(maxSteps:=1000000) (disch:=apply zq;omega) only[go_sem,simprocAttr,↓Nat.reduceEqDiff,xx,ca,cv]
     . rw[rgO];simp(maxSteps:=1000000) (disch:=apply zq;omega) only[go_sem,simprocAttr,↓Nat.reduceEqDiff,xx,ca]
     . intro i hi;omega
     . rw[rgO];simp(maxSteps:=1000000) (disch:=apply zq;omega) only[go_sem,simprocAttr,↓Nat.reduceEqDiff,xx,ca]
   . obtain⟨m,hm⟩:∃m,r.length=m+1:=⟨r.length-1,by omega⟩
     have eS:S3a r p r.length=⟨[.set 7 (i64 r.length),.set 5 (.ptr 5 []),.set 1 (.int .u8 p),.set 0 (.lst false sRe (rvs (r.map toRv)))],[(5,.fix sLd (eL (1+p%4) r r.length))]⟩:=by rw[S3a,hm];rfl
     have eC:(.agg [i64 7,wl r r.length,.agg [i64 r.length,wt r r.length],gl7 (1+p%4) r r.length]:AV)=eL (1+p%4) r r.length:=by rw[hm];rfl
     rw[eC,eL]at cv
     rw[eS,eL]
     simp(maxSteps:=1000000) (disch:=apply zq;omega) only[go_sem,simprocAttr,↓Nat.reduceEqDiff,xx,hL,hLh,ca,ck]
     rw[zao (S3o (1+p%4) r r.length) (gs (1+p%4) r r.length).length (by unfold LF;omega)]
     . rw[S3o,eL,rgO];simp(maxSteps:=1000000) (disch:=apply zq;omega) only[go_sem,simprocAttr,↓Nat.reduceEqDiff,xx,hLh,ca,cv]
     . rw[S3o,eL,rgO];simp(maxSteps:=1000000) (disch:=apply zq;omega) only[go_sem,simprocAttr,↓Nat.reduceEqDiff,xx,hLh]
     . exact st3
     . rw[S3o,eL,rgO];simp(maxSteps:=1000000) (disch:=apply zq;omega) only[go_sem,simprocAttr,↓Nat.reduceEqDiff,xx,hLh]
 . rw[S3a];simp(disch:=apply zq;omega) only[go_sem,simprocAttr,↓Nat.reduceEqDiff,xx,hL,wl,wt,gl7]
 . exact hs2
 . rw[S3a];simp(disch:=apply zq;omega) only[go_sem,simprocAttr,↓Nat.reduceEqDiff,xx,hL]
end Go.Proofs.S94.L
namespace Go.Proofs.YtcddalfeicoedaaDoor
open Go Go.Ev Go.Proofs Go.ChangeShapes Go.WideShapes Go.ChangeAt Go.RowKit
theorem own :ownKnob Tryd.prog.godebug=none:=by kernel_rfl
theorem gBit :Tryd.prog.globalNamed "math/bits.deBruijn64tab" =some 1:=by kernel_rfl
theorem gCon :Tryd.prog.globalNamed "weirgate/hash.constants" =some 2:=by kernel_rfl
theorem qg2 :(Tryd.prog.globals[1]?).map (·.type)=some 161:=by kernel_rfl
theorem qg1 :(Tryd.prog.globals[2]?).map (·.type)=some 181:=by kernel_rfl
theorem kBit :kdOf Tryd.prog 8 161=some (.ar 64 (.int .u8)):=by kernel_rfl
theorem kCon :kdOf Tryd.prog 8 181=some (.ar 64 (.int .u32)):=by kernel_rfl
theorem qhj :AV.agg (zab S94.M.dbl)=avD (H:=Unit) (.ar 64 (.int .u8)) Rows.laid_math_bits_deBruijn64tab:=by kernel_rfl
theorem qhi :AV.agg S94.kA=avD (H:=Unit) (.ar 64 (.int .u32)) Rows.laid_weirgate_hash_constants:=by kernel_rfl
theorem qcx :laidOutB Tryd.prog=true:=by kernel_rfl
theorem z41 {P:Program}{t t':Nat->Option (Sh×AV)}{ri:Nat->Option RInfo}{f:Nat}{fd:Ev.Fd}(h:FnOk P ⟨t,ri⟩ f fd):FnOk P ⟨t',ri⟩ f fd:=by
 cases h with
 | code h hlt ok=>exact .code h hlt ⟨ok.ok⟩
 | given g h hlt ok=>exact .given g h hlt ok
 | round rid ps sl ma mb hf h ok=>exact .round rid ps sl ma mb hf h ⟨ok.ok⟩
 | dfr D h hlt ok =>
   obtain⟨fn,codes,id,ops,cB,an,im,o,c,h1,h2,h3,h4,h5,h6,h7,h8,h9,h10,h11,h12,h13,h14,h15,h16,h17,fc⟩:=ok.ok
   exact .dfr D h hlt ⟨fn,codes,id,ops,cB,an,im,o,c,h1,h2,h3,h4,h5,h6,h7,h8,h9,h10,h11,h12,h13,h14,h15,h16,h17,⟨fc.ok⟩⟩
noncomputable def gl3:Gl:=⟨fun g=>match g with|1=>some (.ar 64 .sc,.agg (zab S94.M.dbl))|2=>some (.ar 64 .sc,.agg S94.kA)|_=>none,S94.ri⟩
theorem z7a :∀f fd,S94.tab f=some fd->FnOk Tryd.prog gl3 f fd:=fun f fd h=>z41 (S94.tab_ok f fd h)
theorem qdq :Nonempty (S94.H.GlK gl3):=⟨⟨rfl⟩⟩
theorem qdr :Nonempty (S94.M.GlB gl3):=⟨⟨rfl⟩⟩
abbrev qcy :List (String×DataW Unit):=[("math/bits.deBruijn32tab",Rows.laid_math_bits_deBruijn32tab),("math/bits.deBruijn64tab",Rows.laid_math_bits_deBruijn64tab),("weirgate/hash.constants",Rows.laid_weirgate_hash_constants)]
theorem qg0 {W:World}(h:laidMetH Tryd.prog qcy W):TabOk W.heap gl3:=by
 have h:laidMet Tryd.prog qcy W:=h
 refine z08 h fun g sh a hg=> ?_
 match g,hg with
 | 0,hg=>cases hg
 | 1,hg =>
   obtain⟨rfl,rfl⟩:=Prod.mk.inj (Option.some.inj hg)
   exact⟨_,wB _ wC,8,161,_,gBit,qg2,kBit,rfl,qhj⟩
 | 2,hg =>
   obtain⟨rfl,rfl⟩:=Prod.mk.inj (Option.some.inj hg)
   exact⟨_,wB _ (wB _ wC),8,181,_,gCon,qg1,kCon,rfl,qhi⟩
 | _+3,hg=>cases hg
def z5m :Array Value:=(S94.kList.map fun x=>Value.int .u32 (x.toNat:Int)).toArray
def zxw :Array Value:=([0,1,28,2,29,14,24,3,30,22,20,15,25,17,4,8,31,27,13,23,21,19,16,7,26,12,18,6,11,5,10,9]:List Int).map (fun x=>Value.int .u8 x) |>.toArray
def zxv :Array Value:=(S94.M.dbl.map fun x=>Value.int .u8 (x.toNat:Int)).toArray
def put (vs:Array Value):Obj->Obj
 | .cells _ t frozen=>.cells vs t frozen
 | o=>o
noncomputable def zls (os:Os):World :=
 {World.holding Tryd.prog os ⟨#[],#[],[]⟩with heap:=(((World.holding Tryd.prog os ⟨#[],#[],[]⟩).heap.modify 0 (put zxw)).modify 1 (put zxv)).modify 2 (put z5m)}
end Go.Proofs.YtcddalfeicoedaaDoor
