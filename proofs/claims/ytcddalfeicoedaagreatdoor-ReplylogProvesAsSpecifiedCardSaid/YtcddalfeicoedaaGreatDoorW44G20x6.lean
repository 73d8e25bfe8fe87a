/-
  Chapter 44: the examples. No condition.
-/
import Derived.Test.YtcddalfeicoedaaGreatDoorW44G19x6
import Derived.Test.YtcddalfeicoedaaGreatDoorW44G17x6
import Derived.Test.YtcddalfeicoedaaGreatDoorW44G1x6
set_option linter.all false
open Nat renaming exists_eq_add_of_le'->wA,le_refl->wB,min_eq_left->wC
open List renaming length_take->wD
namespace Go.Proofs.S44.L
open Go Go.Ev Go.Proofs Go.Proofs.S44
open Go.Proofs.S44.H (strsAV zaa zal Sml GlK GlR)
open Go.Proofs.S44.M (lf zd3 Dg dgL dgL_length All16 Sd sB pkAV grw)
variable {gl :Gl} {n:Nat}
abbrev lz :AV:=.agg [i64 0,.lst true .sc [],.agg [i64 0,.lst true .sc []],.lst true .sc []]
theorem z8f (h:2<=n)(a:Int):call gl tab n 11 [i64 a] []=some (.tup [if 0<=a/\a<64 then .agg [i64 a,.lst true .sc [],.agg [i64 0,.lst true .sc []],.lst true .sc []]else lz,i64 (if 0<=a/\a<64 then 0 else 1)],[],[]):=by
 obtain⟨d,rfl⟩:=wA h
 have c:=@site_at gl (d+1) (by omega) a
 rw[zad (fd:=fd11) rfl]
 by_cases hs:0<=a/\a<64
 . rw[decide_eq_true hs]at c
   rw[if_pos hs,if_pos hs]
   simp(disch:=apply zq;omega) only[go_sem,simprocAttr,↓Nat.reduceEqDiff,xx,fd11,m11,c]
 . rw[decide_eq_false hs]at c
   rw[if_neg hs,if_neg hs]
   simp(disch:=apply zq;omega) only[go_sem,simprocAttr,↓Nat.reduceEqDiff,xx,fd11,m11,c]
def k3 :Ky:=⟨1003,1,[115],0,1099511627776⟩
theorem k3_v :VK k3:=⟨by decide,by decide,by decide,by decide,by decide⟩
theorem k3_r :VR [k3]:=⟨by decide,fun i hi=>by
 match i,hi with
 | 0,_=>exact⟨k3_v,fun h=>absurd h (by decide)⟩⟩
theorem qbj (h:1<=n):call gl tab n 20 [i64 3] []=some (.agg [i64 1003,i64 1,.str [115],i64 0,i64 1099511627776],[],[]):=by
 obtain⟨d,rfl⟩:=wA h
 rw[zad (fd:=fd20) rfl]
 simp(disch:=apply zq;omega) only[go_sem,simprocAttr,↓Nat.reduceEqDiff,xx,fd20,m20]
theorem z1g (g:Dg):hdC [k3] (hdS k3 (hd0 3 1 g 10 20))=0:=by
 have e:hdP (hdS k3 (hd0 3 1 g 10 20))=hdP (hdK k3 (hd0 3 1 g 10 20)):=rfl
 have fn1:fnK [k3] 1003 1=some k3:=rfl
 rw[hdC,if_pos (show zit (hdS k3 (hd0 3 1 g 10 20)).site=true from(by decide:zit (3:Int)=true))]
 show ckE [k3] (1000+3) 1 44 (hdP (hdS k3 (hd0 3 1 g 10 20))) (sea k3.k 44 (hdP (hdK k3 (hd0 3 1 g 10 20)))) 10 20=0
 unfold ckE
 rw[show(1000+3:Int)=1003 from rfl,fn1,e]
 simp only
 rw[if_pos (by decide),if_pos trivial]
theorem qg9 (g' g:Dg):ckI g' 0 1 [] g=decide (g'=g):=by
 unfold ckI
 rw[Bool.eq_iff_iff,decide_eq_true_eq,decide_eq_true_eq]
 have e1:Mk.dep (Int.toNat 0) (Int.toNat 1)=0:=Mk.dep_one (by decide)
 have e2:Mk.cl M.nd M.z16 g' (Int.toNat 0) (Int.toNat 1) []=g':=by rw[Mk.cl,dif_neg (by decide)]
 rw[e1,e2]
 exact⟨fun h=>h.2.2,fun h=>⟨by omega,rfl,h⟩⟩
abbrev lA1 (g:Dg):AV:=.agg [i64 3,.lst false sRe [zA 0],.agg [i64 1,.lst false sB [.agg (zac g)]],.lst true .sc []]
abbrev hA1 (g sg:Dg):AV:=.agg [i64 3,i64 1,.agg (zac g),.agg [i64 10,i64 20],i64 1,.agg (zac sg)]
set_option maxHeartbeats 2000000 in
theorem zzo [Nonempty (GlK gl)][Nonempty (M.GlB gl)](h:1010<=n):call gl tab n 10 [] []=some (.bool true,[],[]):=by
 obtain⟨d,rfl⟩:=wA h
 have b1:=@z8f gl (d+1009) (by omega) 3
 rw[if_pos (by decide),if_pos (by decide)]at b1
 have b2:=@z8f gl (d+1009) (by omega) 64
 rw[if_neg (by decide),if_neg (by decide)]at b2
 have v0:=qdj (gl:=gl) r0
 have v1:=qdj (gl:=gl) (m:=1) (by unfold R64;omega)
 have a1:=qhn (gl:=gl) (n:=d+1009) (s:=3) (f:=true) (f2:=true) (f3:=true) (sh:=.sc) (sh2:=.sc) (sh3:=.sc) (l:=[]) (t:=[]) (U:=[]) (by omega) (z:=0) v0 (by simp) (.inl rfl) rfl rfl (by simp) (by intro y hy;simp at hy) (.inl rfl) (by omega) ⟨by omega,by omega,Mk.pcn_0.symm⟩
 rw[grw1]at a1
 have a2:=qc4 (gl:=gl) (n:=d+1009) (s:=3) (f:=false) (f2:=false) (f3:=true) (sh:=sRe) (sh2:=sB) (sh3:=.sc) (l:=[zV 0]) (t:=[(zV 0).f]) (U:=[]) (z:=1) (by omega) v0 (by simp) (fun h=>absurd h.2 (by decide))
 have g16:=v0.f
 have se:=z95 (gl:=gl) (n:=d+1009) (s:=3) (z:=1) (lo:=10) (hi:=20) (f:=false) (f2:=false) (f3:=true) (sh:=sRe) (sh2:=sB) (sh3:=.sc) (l:=[zV 0]) (t:=[(zV 0).f]) (hs:=[]) (k:=k3) (root:=(zV 0).f) (by omega) k3_v (by omega) (by decide) (by unfold CV;omega) g16 (fun n hn=>top1 hn g16) (by simp) (.inl rfl) (by simp) (by simp) (.inl rfl)
 have hok:HdOk (hdS k3 (hd0 3 1 (zV 0).f 10 20)):=z8q k3_v.ok ⟨zbg r3 (few4 (show R64 1 by unfold R64;omega) (show R64 10 by unfold R64;omega) (show R64 20 by unfold R64;omega) r0) (by simp),g16,by simp⟩
 have pr:=zuu (gl:=gl) (n:=d+1009) (s:=3) (z:=1) (f:=false) (f2:=false) (f3:=false) (sh:=sRe) (sh2:=sB) (sh3:=sHd) (l:=[zV 0]) (t:=[(zV 0).f]) (hs:=[hdS k3 (hd0 3 1 (zV 0).f 10 20)]) (by omega) (.inr rfl) (by simp) (fun x hx=>by simp at hx;subst hx;exact v0) (.inr rfl) (by simp) (fun x hx=>by simp at hx;subst hx;exact hok) (h:=hdS k3 (hd0 3 1 (zV 0).f 10 20)) (by simp) (k:=1) (i:=0) rfl (by simp) (by omega)
 rw[show fs ([zV 0].take 1)=[(zV 0).f]from rfl,qlg]at pr
 have c0:=zun (gl:=gl) (n:=d+1009) (fr:=false) (m:=sY) (ring:=[k3]) (by omega) (.inr rfl) k3_r v0 hok (f:=false) (sh:=sB) (p:=[]) (by intro y hy;simp at hy) (by simp) (.inr rfl)
 have c1:=zun (gl:=gl) (n:=d+1009) (fr:=false) (m:=sY) (ring:=[k3]) (by omega) (.inr rfl) k3_r v1 hok (f:=false) (sh:=sB) (p:=[]) (by intro y hy;simp at hy) (by simp) (.inr rfl)
 have va:=zy1 (gl:=gl) (n:=d+1009) (by omega) (s:=3) (by omega) (f:=false) (f2:=false) (f3:=false) v0 rfl rfl (y:=hdS k3 (hd0 3 1 (zV 0).f 10 20)) hok rfl rfl rfl
 have lf0:=v0.l (d+1009) (by omega)
 have q0:ckS [k3] (zV 0) (hdS k3 (hd0 3 1 (zV 0).f 10 20)) []=0:=by
  unfold ckS
  rw[z1g]
  show fE [mE (3==3) 1,0,mE (ckI (zV 0).f 0 1 [] (zV 0).f) 3]=0
  rw[qg9,decide_eq_true rfl];rfl
 have q1:ckS [k3] (zV 1) (hdS k3 (hd0 3 1 (zV 0).f 10 20)) []=3:=by
  unfold ckS
  rw[z1g]
  show fE [mE (3==3) 1,0,mE (ckI (zV 1).f 0 1 [] (zV 0).f) 3]=3
  rw[qg9,decide_eq_false (show ¬(zV 1).f=(zV 0).f from zne)];rfl
 rw[q0]at c0
 rw[q1]at c1
 clear q0 q1 v0 v1 hok
 have ky:=@qbj gl (d+1009) (by omega)
 have key:∀g sg:List UInt8,g=(zV 0).f->sg=(hdS k3 (hd0 3 1 (zV 0).f 10 20)).sgn->call gl tab (d+1010) 10 [] []=some (.bool true,[],[]):=fun g sg hg hsg=>by
  rw[<-hg]at hsg g16
  rw[<-hg]at a1 a2 se pr c0 c1 va lf0
  replace a1:call gl tab (d+1009) 16 [.agg [i64 3,.lst true .sc [],.agg [i64 0,.lst true .sc []],.lst true .sc []],zA 0] []=some (.tup [lA1 g,i64 0],[],[]):=a1
  replace a2:call gl tab (d+1009) 16 [lA1 g,zA 0] []=some (.tup [lA1 g,i64 1],[],[]):=a2
  have eh:hdAV (hdS k3 (hd0 3 1 g 10 20))=hA1 g sg:=by rw[hsg];rfl
  replace se:call gl tab (d+1009) 18 [lA1 g,.agg [i64 1003,i64 1,.str [115],i64 0,i64 1099511627776],.agg [i64 10,i64 20]] []=some (.tup [.agg [i64 3,.lst false sRe [zA 0],.agg [i64 1,.lst false sB [.agg (zac g)]],.lst false sHd [hdAV (hdS k3 (hd0 3 1 g 10 20))]],hdAV (hdS k3 (hd0 3 1 g 10 20)),i64 0],[],[]):=se
  replace pr:call gl tab (d+1009) 21 [.agg [i64 3,.lst false sRe [zA 0],.agg [i64 1,.lst false sB [.agg (zac g)]],.lst false sHd [hdAV (hdS k3 (hd0 3 1 g 10 20))]],i64 0,hdAV (hdS k3 (hd0 3 1 g 10 20))] []=some (.tup [.agg [zA 0,hdAV (hdS k3 (hd0 3 1 g 10 20)),.lst false sB []],i64 0],[],[]):=pr
  replace c0:call gl tab (d+1009) 22 [.lst false sY [.agg [i64 1003,i64 1,.str [115],i64 0,i64 1099511627776]],.agg [zA 0,hdAV (hdS k3 (hd0 3 1 g 10 20)),.lst false sB []]] []=some (i64 0,[],[]):=c0
  replace c1:call gl tab (d+1009) 22 [.lst false sY [.agg [i64 1003,i64 1,.str [115],i64 0,i64 1099511627776]],.agg [zA 1,hdAV (hdS k3 (hd0 3 1 g 10 20)),.lst false sB []]] []=some (i64 3,[],[]):=c1
  replace va:call gl tab (d+1009) 15 [.agg [i64 3,.lst false sRe [zA 0],.agg [i64 1,.lst false sB [.agg (zac g)]],.lst false sHd [hdAV (hdS k3 (hd0 3 1 g 10 20))]]] []=some (.bool true,[],[]):=va
  replace lf0:call gl tab (d+1009) 28 [zA 0] []=some (.agg (zac g),[],[]):=lf0
  have sg16:sg.length=16:=by rw[hsg];exact zoy _ _ _
  rw[eh]at se pr c0 c1 va
  clear eh hsg hg
  have u1:=b16 g16
  have u2:=b16 sg16
  have w1:=H.bytes_all g
  have w2:=H.bytes_all sg
  have q:=eqB g16 g16
  rw[decide_eq_true rfl]at q
  rw[zad (fd:=fd10) rfl]
  simp(maxSteps:=1000000) (disch:=apply zq;omega) only[go_sem,simprocAttr,↓Nat.reduceEqDiff,xx,fd10,m10,↓out16_eq,b1,b2,a1,a2,ky,se,pr,c0,c1,va,lf0,u1,u2,w1,w2,q,g16,sg16,zab,H.oo]
 exact key _ _ rfl rfl
end Go.Proofs.S44.L
namespace Go.Proofs.S44.L
open Go Go.Ev Go.Proofs Go.Proofs.S44
open Go.Proofs.S44.H (strsAV zaa zal Sml GlK GlR)
open Go.Proofs.S44.M (lf zd3 Dg dgL dgL_length All16 Sd sB pkAV grw)
variable {gl :Gl} {n:Nat}
def RvR (gl:Gl)(x:Rv):Prop:=∀n,12<=n->call gl tab n 26 [rvAV x] []=some (bAV x.f,[],[])
def L49 :MC:=match m49 with| .seq _ (.seq _ (.seq (.seq _ (.block _ (.loop _ b))) _))=>b|_=>.skip
def S49 (k:Nat)(ld:AV)(l:List Rv)(i:Nat):St:=⟨[.set 6 (i64 i),.set 5 (.sl 5005 [] 0 i),.set 2 (.ptr 2 []),.set 1 (i64 k)],[(2,.fix sLd ld),(5005,.grow (.ar 16 .sc) (dgL ((fs l).take i)))]⟩
section
variable {s z:Int} {f f2 f3:Bool} {sh sh2 sh3:Sh} {l:List Rv} {t:List Dg} {U:List AV}
theorem qd9 {d:Nat}(hd:12<=d)(hs:Sr l sh)(hl:l.length<=60000)(ok:∀x∈l,RvOk gl x)(ok':∀x∈l,RvR gl x)(k i:Nat)(hk:k<=l.length)(hi:i<k) :
  zbe [.slot 1,.slot 2,.own 5 5005 (.ar 16 .sc),.slot 6,.key 2] (evC gl (call gl tab d) L49 (S49 k (ldAV s f sh l z f2 sh2 t f3 sh3 U) l i))=some (S49 k (ldAV s f sh l z f2 sh2 t f3 sh3 U) l (i+1)):=by
 obtain rfl:sh=sRe:=hs.resolve_left (fun e=>by subst e;simp at hk;omega)
 have hx:=zj9 (l:=l) (i:=i) (by omega)
 have hm:=zgq (l:=l) (i:=i) (by omega)
 have h1:=(ok _ hm).sh
 have h2:=ok' _ hm d hd
 have q:=H.bytes_all (rat l i).f
 have q2:=b16 (ok _ hm).f
 have hL:=zbc l
 have lt:((fs l).take i).length=i:=by rw[wD,za4];omega
 have ld:=dgL_length ((fs l).take i)
 have hLim:i+1<=LIM:=by unfold LIM;omega
 rw[lt]at ld
 rw[S49,S49,ztk (by omega)]
 generalize (fs l).take i=a at *
 generalize rat l i=y at *
 clear hm
 simp(disch:=apply zq;omega) only[go_sem,simprocAttr,↓Nat.reduceEqDiff,xx,L49,m49,↓out16_eq,hx,hL,h1,h2,q,q2,ld,hLim,zvt,M.dgL_length,lt,H.oo,H.noImms_bytesAV]
theorem zjd (h:13<=n)(hs:Sr l sh)(hl:l.length<=60000)(ok:∀x∈l,RvOk gl x)(ok':∀x∈l,RvR gl x){k:Nat}(hk:k<=l.length) :
  call gl tab n 49 [ldAV s f sh l z f2 sh2 t f3 sh3 U,i64 k] []=some (.lst false sB (dgL ((fs l).take k)),[],[]):=by
 obtain⟨d,rfl⟩:=wA h
 have st:=fun i hi=>@qd9 gl s z f f2 f3 sh sh2 sh3 l t U (d+12) (by omega) hs hl ok ok' k i hk hi
 simp only[L49,m49,↓out16_eq]at st
 have lt:((fs l).take k).length=k:=by rw[wD,za4];omega
 have ld:=dgL_length ((fs l).take k)
 have ta:List.take k (dgL ((fs l).take k))=dgL ((fs l).take k):=List.take_of_length_le (by rw[ld];omega)
 rw[zad (fd:=fd49) rfl]
 simp(disch:=apply zq;omega) only[go_sem,simprocAttr,↓Nat.reduceEqDiff,xx,fd49,m49,↓out16_eq,H.oo]
 rw[zai (S49 k (ldAV s f sh l z f2 sh2 t f3 sh3 U) l) k (by unfold LF;omega)]
 . rw[S49];simp(disch:=apply zq;omega) only[go_sem,simprocAttr,↓Nat.reduceEqDiff,xx,ld,ta,lt]
 . rw[S49,List.take_zero];simp(disch:=apply zq;omega) only[go_sem,simprocAttr,↓Nat.reduceEqDiff,xx];rfl
 . exact st
 . rw[S49];simp(disch:=apply zq;omega) only[go_sem,simprocAttr,↓Nat.reduceEqDiff,xx,ld]
end
def L90 :MC:=match m90 with| .seq _ (.seq (.seq _ (.block _ (.loop _ b))) _)=>b|_=>.skip
def S90 (ld x:AV)(i:Nat):St:=⟨[.set 5 (i64 i),.set 3 (.ptr 3 []),.set 2 (.ptr 2 [])],[(3,.fix sHd x),(2,.fix sLd ld)]⟩
theorem zix (h:1<=n){s z:Int}{f f2 f3:Bool}{sh sh2 sh3:Sh}{l:List Rv}{t:List Dg}{hs:List Hd}{x:Hd}(hx:HdOk x)(h3:hs=[]\/sh3=sHd)(hl:hs.length<=60000)(ok:∀y∈hs,HdOk y) :
  call gl tab n 90 [ldAV s f sh l z f2 sh2 t f3 sh3 (hds hs),hdAV x] []=some (.bool (decide (x∈hs)),[],[]):=by
 obtain⟨d,rfl⟩:=wA h
 have hL:=zb3 hs
 have u1:=b16 hx.r
 have u2:=b16 hx.s
 have w1:=H.bytes_all x.root
 have w2:=H.bytes_all x.sgn
 have x1:=hx.r
 have x2:=hx.s
 have hst:∀i,i<hs.length->hdat hs i≠x->zbe [.slot 2,.slot 3,.slot 5,.key 2,.key 3] (evC gl (call gl tab d) L90 (S90 (ldAV s f sh l z f2 sh2 t f3 sh3 (hds hs)) (hdAV x) i))=some (S90 (ldAV s f sh l z f2 sh2 t f3 sh3 (hds hs)) (hdAV x) (i+1)):=fun i hi hp=>by
  obtain rfl:sh3=sHd:=h3.resolve_left (fun e=>by subst e;simp at hi)
  have hy:=ziv hi
  have oy:=ok _ (zdn hi)
  have e:=eqHd oy hx
  rw[decide_eq_false hp]at e
  have v1:=oy.r
  have v2:=oy.s
  have w3:=H.bytes_all (hdat hs i).root
  have w4:=H.bytes_all (hdat hs i).sgn
  clear oy
  generalize hdat hs i=y at *
  simp(disch:=apply zq;omega) only[go_sem,simprocAttr,↓Nat.reduceEqDiff,xx,L90,m90,S90,hL,hy,e,v1,v2,x1,x2,w1,w2,w3,w4,zab]
 have hf:∀i,i<hs.length->¬hdat hs i≠x->out1 4 (evC gl (call gl tab d) L90 (S90 (ldAV s f sh l z f2 sh2 t f3 sh3 (hds hs)) (hdAV x) i))=some (.ret,.bool true):=fun i hi hp=>by
  obtain rfl:sh3=sHd:=h3.resolve_left (fun e=>by subst e;simp at hi)
  have hy:=ziv hi
  have oy:=ok _ (zdn hi)
  have e:=eqHd oy hx
  rw[decide_eq_true (Classical.not_not.1 hp)]at e
  have v1:=oy.r
  have v2:=oy.s
  have w3:=H.bytes_all (hdat hs i).root
  have w4:=H.bytes_all (hdat hs i).sgn
  clear oy
  generalize hdat hs i=y at *
  simp(disch:=apply zq;omega) only[go_sem,simprocAttr,↓Nat.reduceEqDiff,xx,L90,m90,S90,hL,hy,e,v1,v2,x1,x2,w1,w2,w3,w4,zab]
 rw[zad (fd:=fd90) rfl]
 rcases zb8 (fun i=>hdat hs i≠x) hs.length with ha|⟨q,hq,hb',he⟩
 . have hn:¬x∈hs:=fun h=>by
    obtain⟨i,hi,rfl⟩:=List.getElem_of_mem h
    exact absurd (by simp[hdat,hi]) (ha i hi)
   rw[decide_eq_false hn]
   have hs2:=fun i hi=>hst i hi (ha i hi)
   simp only[L90,m90]at hs2
   simp(disch:=apply zq;omega) only[go_sem,simprocAttr,↓Nat.reduceEqDiff,xx,fd90,m90,hL,u1,u2,w1,w2]
   rw[zai (S90 (ldAV s f sh l z f2 sh2 t f3 sh3 (hds hs)) (hdAV x)) hs.length (by unfold LF;omega)]
   . simp(disch:=apply zq;omega) only[go_sem,simprocAttr,↓Nat.reduceEqDiff,xx,S90,hL]
   . simp(disch:=apply zq;omega) only[go_sem,simprocAttr,↓Nat.reduceEqDiff,xx,S90]
   . exact hs2
   . simp(disch:=apply zq;omega) only[go_sem,simprocAttr,↓Nat.reduceEqDiff,xx,S90,hL]
 . have hn:x∈hs:=by rw[<-Classical.not_not.1 he];exact zdn hq
   rw[decide_eq_true hn]
   obtain⟨st,hs1,hg⟩:=zc9 (hf q hq he)
   have hs2:=fun i (hi:i<q)=>hst i (by omega) (hb' i hi)
   simp only[L90,m90]at hs2 hs1
   simp(disch:=apply zq;omega) only[go_sem,simprocAttr,↓Nat.reduceEqDiff,xx,fd90,m90,hL,u1,u2,w1,w2]
   rw[zai (S90 (ldAV s f sh l z f2 sh2 t f3 sh3 (hds hs)) (hdAV x)) q (by unfold LF;omega),hs1]
   . simp(disch:=apply zq;omega) only[go_sem,simprocAttr,↓Nat.reduceEqDiff,xx,hg]
   . simp(disch:=apply zq;omega) only[go_sem,simprocAttr,↓Nat.reduceEqDiff,xx,S90]
   . exact hs2
   . rw[hs1];rfl
end Go.Proofs.S44.L
namespace Go.Proofs.S44.M
open Go Go.Ev Go.Proofs Go.Mk Go.Proofs.S44
open Go.Proofs.S44.H (GlK GlR)
variable {gl :Gl} {n:Nat}
def P8 (l:List Dg)(k:Nat):List Dg:=pk nd em (l.take k)
def R8 (l:List Dg)(k:Nat):Dg:=rt nd em (l.take k)
theorem zt8 (l:List Dg):P8 l 0=[]:=znp
theorem z3l {l:List Dg}{k:Nat}(h:k<=l.length):(P8 l k).length=pcn k:=by
 rw[P8,z0c _ _ (wB _),wD,wC h]
theorem z0d :∀(q n:Nat),n<=q->pcn n<=n
 | q,n,h=>by
   by_cases h0:n=0
   . subst h0;rw[pcn_0];omega
   . match q,h with
     | 0,h=>omega
     | q+1,h=>rw[pcn_two];have:=z0d q (n/2) (by omega);omega
theorem P8_le (l:List Dg)(hl:l.length<=60000){k:Nat}(hk:k<=l.length):(P8 l k).length<=60000:=by
 rw[z3l hk];have:=z0d _ k (wB _);omega
theorem qde {l:List Dg}{k:Nat}(h:k<=l.length)(hl:l.length<=60000):Form k (P8 l k):=⟨by omega,by omega,by rw[z3l h,Int.toNat_natCast]⟩
theorem z3k {l:List Dg}{k:Nat}(h:k<l.length):grw k (P8 l k) (dgA l k)=P8 l (k+1):=by
 have hle:tr1 k<=(P8 l k).length:=by rw[z3l (by omega)];exact zqk _ _ (wB _)
 rw[qbx em hle]
 have e:=@qho Dg nd em em _ (l.take k) (dgA l k) (wB _)
 rw[wD,wC (by omega)]at e
 rw[P8,P8,e,List.take_succ_eq_append_getElem h]
 congr 2
 simp[dgA,h]
theorem P8_all :∀(l:List Dg) (k:Nat),k<=l.length->All16 l->All16 (P8 l k)
 | l,0,h,ha=>by rw[zt8];exact All16.nil
 | l,k+1,h,ha=>by
   rw[<-z3k (by omega),grw]
   exact((P8_all l k (by omega) ha).take _).app (.one (zm2 _ (ha.at (by omega))))
def pv8 (l:List Dg)(k:Nat):AV:=.agg [i64 (k:Int),if k=0 then .lst true .sc []else .lst false sB (dgL (P8 l k))]
theorem pv8_eq (l:List Dg)(k:Nat):∃f sh,pv8 l k=pkAV k f sh (P8 l k)/\Sd (P8 l k) sh sB:=by
 by_cases h:k=0
 . subst h;exact⟨true,.sc,by rw[pv8,if_pos rfl,zt8];rfl,.inl (zt8 l)⟩
 . exact⟨false,sB,by rw[pv8,if_neg h],.inr rfl⟩
theorem qii (l:List Dg):pv8 l 0= .agg [i64 0,.lst true .sc []]:=rfl
theorem qij (l:List Dg)(k:Nat):pv8 l (k+1)= .agg [i64 ((k+1:Nat):Int),.lst false sB (dgL (P8 l (k+1)))]:=rfl
def L50 :MC:=match m50 with| .seq _ (.seq _ (.seq (.seq _ (.block _ (.loop _ b))) _))=>b|_=>.skip
def S50 (f:Bool)(sh:Sh)(l:List Dg)(i:Nat):St:=⟨[.set 4 (i64 i),.set 3 (.ptr 3 []),.set 2 (.ptr 2 []),.set 0 (.lst f sh (dgL l))],[(3,.fix (.st [.sc,.sc]) (pv8 l i)),(2,.fix (.st [.sc,.sc]) (.agg [i64 0,.lst true .sc []]))]⟩
theorem qd8 [Nonempty (GlK gl)][Nonempty (GlR gl)][Nonempty (GlB gl)]{d:Nat}(hd:14<=d)(f:Bool){sh:Sh}{l:List Dg}(hs:Sd l sh sB)(hl:l.length<=60000)(ha:All16 l)(i:Nat)(hi:i<l.length) :
  zbe [.slot 0,.slot 2,.slot 3,.slot 4,.key 2,.key 3] (evC gl (call gl tab d) L50 (S50 f sh l i))=some (S50 f sh l (i+1)):=by
 obtain rfl:sh=sB:=by rcases hs with h0|h0;subst h0;simp at hi;exact h0
 have hL:=dgL_length l
 have hA:=dgL_at hi
 have q1:=ha.at hi
 have q2:=H.bytes_all (dgA l i)
 have nx:=z3k hi
 obtain⟨f1,s1,e1,k1⟩:=pv8_eq l i
 have c:=zw1 (gl:=gl) (n:=d) hd (s:=i) (f:=f1) (sh:=s1) (t:=P8 l i) (leaf:=dgA l i) q1 (by have:=P8_le l hl (k:=i) (by omega);omega) (P8_all l i (by omega) ha) k1 (by omega) (qde (by omega) hl)
 rw[<-e1,nx]at c
 obtain⟨u,eu⟩:∃u,pv8 l i= .agg [i64 i,u]:=⟨_,rfl⟩
 have hq:=b16t q1
 rw[S50,S50,qij]
 rw[eu]at c ⊢
 have nn:=zba (P8 l (i+1))
 generalize P8 l (i+1)=p at *
 generalize dgA l i=x at *
 simp(disch:=apply zq;omega) only[go_sem,simprocAttr,↓Nat.reduceEqDiff,xx,L50,m50,hL,hA,q1,q2,hq,c,nn,zbh]
theorem rtree_at [Nonempty (GlK gl)][Nonempty (GlR gl)][Nonempty (GlB gl)](h:15<=n)(f:Bool){sh:Sh}{l:List Dg}(hs:Sd l sh sB)(hl:l.length<=60000)(ha:All16 l) :
  call gl tab n 50 [.lst f sh (dgL l)] []=some (pv8 l l.length,[],[]):=by
 obtain⟨d,rfl⟩:=wA h
 have hL:=dgL_length l
 have st:=fun i hi=>qd8 (gl:=gl) (d:=d+14) (by omega) f hs hl ha i hi
 simp only[L50,m50]at st
 obtain⟨u,eu⟩:∃u,pv8 l l.length= .agg [i64 l.length,u]:=⟨_,rfl⟩
 rw[zad (fd:=fd50) rfl]
 simp(disch:=apply zq;omega) only[go_sem,simprocAttr,↓Nat.reduceEqDiff,xx,fd50,m50,hL]
 rw[zai (S50 f sh l) l.length (by unfold LF;omega)]
 . rw[S50,pv8]
   split
   . simp(disch:=apply zq;omega) only[go_sem,simprocAttr,↓Nat.reduceEqDiff,xx,hL]
   . simp(disch:=apply zq;omega) only[go_sem,simprocAttr,↓Nat.reduceEqDiff,xx,hL]
 . rw[S50,qii];simp(disch:=apply zq;omega) only[go_sem,simprocAttr,↓Nat.reduceEqDiff,xx,hL]
 . exact st
 . rw[S50];simp(disch:=apply zq;omega) only[go_sem,simprocAttr,↓Nat.reduceEqDiff,xx,hL]
def L34 :MC:=match m34 with| .seq _ (.seq _ (.seq (.seq _ (.block _ (.loop _ b))) _))=>b|_=>.skip
def S34 (f f':Bool)(k k':Sh)(a b:List Dg)(i:Nat):St:=⟨[.set 5 (i64 i),.set 1 (.lst f' k' (dgL b)),.set 0 (.lst f k (dgL a))],[]⟩
theorem qgq {a b:List Dg}(h:a.length=b.length)(hh:∀i,i<a.length->dgA a i=dgA b i):a=b:=by
 apply List.ext_getElem h
 intro i h1 h2
 have:=hh i h1
 simpa[dgA,h1,h2]using this
theorem same_dec (h:1<=n){f f':Bool}{k k':Sh}{a b:List Dg}(ha:All16 a)(hb:All16 b)(hk:Sd a k sB)(hk':Sd b k' sB)(hl:a.length<=1000000)(hl2:b.length<=1000000) :
  call gl tab n 34 [.lst f k (dgL a),.lst f' k' (dgL b)] []=some (.bool (decide (a=b)),[],[]):=by
 obtain⟨d,rfl⟩:=wA h
 have hL:=dgL_length a
 have hL2:=dgL_length b
 rw[zad (fd:=fd34) rfl]
 by_cases hlen:a.length=b.length
 . have st:∀i,i<a.length->dgA a i=dgA b i->zbe [.slot 0,.slot 1,.slot 5] (evC gl (call gl tab d) L34 (S34 f f' k k' a b i))=some (S34 f f' k k' a b (i+1)):=fun i hi he=>by
    obtain rfl:k=sB:=by rcases hk with h0|h0;subst h0;simp at hi;exact h0
    obtain rfl:k'=sB:=by rcases hk' with h0|h0;(rw[h0]at hlen;simp at hlen;rw[hlen]at hi;simp at hi);exact h0
    have hA:=dgL_at hi
    have hB:=dgL_at (show i<b.length by omega)
    have q1:=ha.at hi
    have q2:=H.bytes_all (dgA a i)
    have e:=eqB q1 q1
    rw[decide_eq_true rfl]at e
    rw[<-he]at hB
    generalize dgA a i=x at *
    rw[S34,S34]
    simp(disch:=apply zq;omega) only[go_sem,simprocAttr,↓Nat.reduceEqDiff,xx,L34,m34,hL,hL2,hA,hB,q1,q2,e,zbh,zab]
   have hf:∀i,i<a.length->¬dgA a i=dgA b i->out1 4 (evC gl (call gl tab d) L34 (S34 f f' k k' a b i))=some (.ret,.bool false):=fun i hi he=>by
    obtain rfl:k=sB:=by rcases hk with h0|h0;subst h0;simp at hi;exact h0
    obtain rfl:k'=sB:=by rcases hk' with h0|h0;(rw[h0]at hlen;simp at hlen;rw[hlen]at hi;simp at hi);exact h0
    have hA:=dgL_at hi
    have hB:=dgL_at (show i<b.length by omega)
    have q1:=ha.at hi
    have q2:=H.bytes_all (dgA a i)
    have q3:=hb.at (show i<b.length by omega)
    have q4:=H.bytes_all (dgA b i)
    have e:=eqB q1 q3
    rw[decide_eq_false he]at e
    generalize dgA a i=x at *
    generalize dgA b i=y at *
    rw[S34]
    simp(disch:=apply zq;omega) only[go_sem,simprocAttr,↓Nat.reduceEqDiff,xx,L34,m34,hL,hL2,hA,hB,q1,q2,q3,q4,e,zbh,zab]
   have hne:((a.length:Int) != (b.length:Int))=false:=by rw[hlen];exact bne_self_eq_false _
   rcases zb8 (fun i=>dgA a i=dgA b i) a.length with hA|⟨q,hq,hb',he⟩
   . rw[decide_eq_true (qgq hlen hA)]
     have hs2:=fun i hi=>st i hi (hA i hi)
     simp only[L34,m34]at hs2
     simp(disch:=apply zq;omega) only[go_sem,simprocAttr,↓Nat.reduceEqDiff,xx,fd34,m34,hL,hL2,hne]
     rw[zai (S34 f f' k k' a b) a.length (by unfold LF;omega)]
     . rw[S34];simp(disch:=apply zq;omega) only[go_sem,simprocAttr,↓Nat.reduceEqDiff,xx,hL]
     . rw[S34];simp(disch:=apply zq;omega) only[go_sem,simprocAttr,↓Nat.reduceEqDiff,xx]
     . exact hs2
     . rw[S34];simp(disch:=apply zq;omega) only[go_sem,simprocAttr,↓Nat.reduceEqDiff,xx,hL]
   . rw[decide_eq_false (fun h=>he (by rw[h]))]
     obtain⟨st',hs1,hg⟩:=zc9 (hf q hq he)
     have hs2:=fun i (hi:i<q)=>st i (by omega) (hb' i hi)
     simp only[L34,m34]at hs2 hs1
     simp(disch:=apply zq;omega) only[go_sem,simprocAttr,↓Nat.reduceEqDiff,xx,fd34,m34,hL,hL2,hne]
     rw[zai (S34 f f' k k' a b) q (by unfold LF;omega),hs1]
     . simp(disch:=apply zq;omega) only[go_sem,simprocAttr,↓Nat.reduceEqDiff,xx,hg]
     . rw[S34];simp(disch:=apply zq;omega) only[go_sem,simprocAttr,↓Nat.reduceEqDiff,xx]
     . exact hs2
     . rw[hs1];rfl
 . rw[decide_eq_false (fun h=>hlen (by rw[h]))]
   have hne:((a.length:Int) != (b.length:Int))=true:=by rw[bne_iff_ne];omega
   simp(disch:=apply zq;omega) only[go_sem,simprocAttr,↓Nat.reduceEqDiff,xx,fd34,m34,hL,hL2,hne]
end Go.Proofs.S44.M
