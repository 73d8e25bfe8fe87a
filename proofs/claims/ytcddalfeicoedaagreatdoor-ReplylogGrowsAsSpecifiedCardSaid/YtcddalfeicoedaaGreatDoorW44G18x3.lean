/-
  Chapter 44: a ledger of one reply is valid. No condition.
-/
import Derived.Test.YtcddalfeicoedaaGreatDoorW44G17x3
set_option linter.all false
open Nat renaming exists_eq_add_of_le'->wA
namespace Go.Proofs.S44.L
open Go Go.Ev Go.Proofs Go.Proofs.S44
open Go.Proofs.S44.H (strsAV zaa zai Sml GlK GlR zam zbn nsI zal zdq zint zau encB zaw zaf dig inp)
open Go.Proofs.S44.M (lf zcv Dg dgL dgL_length All16 Sd sB pkAV grw)
variable {gl :Gl} {n:Nat}
theorem pc1 :Mk.pcn 1=1:=by rw[Mk.pcn_two];simp[Mk.pcn_0]
theorem grw1 (g:Dg):grw 0 [] g=[g]:=by simp[M.grw,M.bk]
theorem rt1 (g:Dg):Mk.rt M.nd M.em [g]=g:=by rw[Mk.rt];rfl
theorem qk4 (g:Dg):Mk.incl M.nd M.em [g] 0=[]:=by rw[Mk.incl];rfl
theorem top1 [Nonempty (GlK gl)][Nonempty (M.GlB gl)](h:14<=n){f:Bool}{g:Dg}(hg:g.length=16):call gl tab n 60 [pkAV 1 f sB [g]] []=some (.tup [bAV g,i64 0],[],[]):=by
 have c:=M.top_ok (gl:=gl) (n:=n) (z:=1) (f:=f) (t:=[g]) h (by simp) (by intro y hy;simp at hy;subst hy;exact hg) (by simp) (by omega) ⟨by omega,by omega,pc1.symm⟩
 rw[show M.topV [g]=g from rfl]at c
 exact c
def L53 :MC:=match m53 with| .seq _ (.seq _ (.seq (.seq _ (.block _ (.loop _ b))) _))=>b|_=>.skip
def S53 (f f':Bool)(l:List Dg)(i:Nat):St:=⟨[.set 13 (i64 i),.set 12 (i64 l.length),.set 1 (.lst f' sB (dgL l)),.set 0 (.lst f sB (dgL l))],[]⟩
theorem qf7 (h:1<=n)(f f':Bool){l:List Dg}(ha:All16 l)(hl:l.length<=60000):call gl tab n 53 [.lst f sB (dgL l),.lst f' sB (dgL l)] []=some (.bool true,[],[]):=by
 obtain⟨d,rfl⟩:=wA h
 have hL:=dgL_length l
 have hs:∀i,i<l.length->zbd [.slot 0,.slot 1,.slot 12,.slot 13] (evC gl (call gl tab d) L53 (S53 f f' l i))=some (S53 f f' l (i+1)):=fun i hi=>by
  have hx:=M.dgL_at hi
  have g16:=ha.at hi
  have e:=eqB g16 g16
  rw[decide_eq_true rfl]at e
  have w:=H.bytes_all (M.dgA l i)
  generalize M.dgA l i=y at *
  simp(disch:=apply zq;omega) only[go_sem,simprocAttr,↓Nat.reduceEqDiff,xx,L53,m53,S53,hL,hx,e,g16,w,zab]
 simp only[L53,m53]at hs
 rw[zad (fd:=fd53) rfl]
 simp(disch:=apply zq;omega) only[go_sem,simprocAttr,↓Nat.reduceEqDiff,xx,fd53,m53,hL,bne_self_eq_false]
 rw[zag (S53 f f' l) l.length (by unfold LF;omega)]
 . simp(disch:=apply zq;omega) only[go_sem,simprocAttr,↓Nat.reduceEqDiff,xx,S53,hL]
 . simp(disch:=apply zq;omega) only[go_sem,simprocAttr,↓Nat.reduceEqDiff,xx,S53,hL]
 . exact hs
 . simp(disch:=apply zq;omega) only[go_sem,simprocAttr,↓Nat.reduceEqDiff,xx,S53,hL]
def L15 :MC:=match m15 with| .seq _ (.seq _ (.seq _ (.seq (.seq _ (.block _ (.loop _ b))) _)))=>b|_=>.skip
def L15b :MC:=match m15 with| .seq _ (.seq _ (.seq _ (.seq _ (.seq _ (.seq _ (.seq (.seq _ (.block _ (.loop _ b))) _))))))=>b|_=>.skip
abbrev pk1 (g:Dg):Nat->AV
 | 0=>.agg [i64 0,.lst true .sc []]
 | _=>.agg [i64 1,.lst false sB (dgL [g])]
def S15 (f:Bool)(x:Rv)(ld:AV)(i:Nat):St:=⟨[.set 23 (i64 i),.set 22 (i64 1),.set 21 (.lst f sRe (rvs [x])),.set 3 (.ptr 3 []),.set 1 (.ptr 1 [])],[(3,.fix (.st [.sc,.sc]) (pk1 x.f i)),(1,.fix sLd ld)]⟩
def S15b (f:Bool)(x:Rv)(y:Hd)(ld:AV)(i:Nat):St:=⟨[.set 70 (i64 i),.set 69 (i64 1),.set 68 (.lst f sHd (hds [y])),.set 6 (.lst false sB (dgL [x.f])),.set 1 (.ptr 1 [])],[(1,.fix sLd ld)]⟩
theorem zyw [Nonempty (GlK gl)][Nonempty (M.GlB gl)](h:20<=n){s:Int}(hs:0<=s/\s<64){f f2 f3:Bool}{x:Rv}(hx:RvOk gl x)(e1:x.site=s)(e2:x.seq=0){y:Hd}(hy:HdOk y)(y1:y.site=s)(y2:y.size=1)(y3:y.root=x.f) :
  call gl tab n 15 [ldAV s f sRe [x] 1 f2 sB [x.f] f3 sHd (hds [y])] []=some (.bool true,[],[]):=by
 obtain⟨d,rfl⟩:=wA h
 have c0:=@site_at gl (d+19) (by omega) s
 rw[decide_eq_true hs]at c0
 have h1:=hx.sh
 have h2:=hx.l (d+19) (by omega)
 have g16:=hx.f
 have a1:All16 [x.f]:=by intro z hz;simp at hz;subst hz;exact g16
 have c1:=@M.append_ok gl (d+19) _ _ (by omega) 0 true .sc [] x.f g16 (by simp) (by intro z hz;simp at hz) (.inl rfl) (by omega) ⟨by omega,by omega,Mk.pcn_0.symm⟩
 rw[grw1]at c1
 have e0:(((0+1:Nat)):Int)=1:=rfl
 have e00:(((0:Nat)):Int)=0:=rfl
 rw[e0]at c1
 replace c1:call gl tab (d+19) 52 [.agg [i64 0,.lst true .sc []],bAV x.f] []=some (.tup [.agg [i64 1,.lst false sB (dgL [x.f])],i64 0],[],[]):=c1
 have p0:pk1 x.f 0= .agg [i64 0,.lst true .sc []]:=rfl
 have p1:pk1 x.f 1= .agg [i64 1,.lst false sB (dgL [x.f])]:=rfl
 have p2:pk1 x.f (0+1)= .agg [i64 1,.lst false sB (dgL [x.f])]:=rfl
 have c2:=@qf7 gl (d+19) (by omega) false f2 _ a1 (by simp)
 have c3:=@zl6 gl (d+19) (by omega) s 1 f f2 f3 sRe sB sHd [x] [x.f] (hds [y]) (.inr rfl) (by simp) (fun z hz=>by simp at hz;subst hz;exact hx) 1 (by simp)
 rw[show fs ([x].take 1)=[x.f]from rfl]at c3
 have c4:=M.root_at (gl:=gl) 1 (n:=d+19) [x.f] false sB (by simp) (by omega) a1 (by simp) (.inr rfl)
 rw[rt1]at c4
 have eI:∀z,dgL [z]=[.agg (zac z)]:=fun z=>rfl
 have c4':=c4
 rw[eI]at c4'
 have eR:rvs [x]=[.agg (i64 s::i64 0::x.r)]:=by rw[<-e1,<-e2];rfl
 have eH:hds [y]=[.agg [i64 s,i64 1,bAV x.f,.agg [i64 y.lo,i64 y.hi],i64 y.ser,bAV y.sgn]]:=by rw[<-y1,<-y2,<-y3];rfl
 replace c3:call gl tab (d+19) 54 [.agg [i64 s,.lst f sRe (rvs [x]),.agg [i64 1,.lst f2 sB (dgL [x.f])],.lst f3 sHd (hds [y])],i64 1] []=some (.lst false sB (dgL [x.f]),[],[]):=c3
 rw[eR,eH]at c3
 have eV:rvAV x= .agg (i64 s::i64 0::x.r):=by rw[<-e1,<-e2]
 rw[eV]at h2
 have u1:=b16 g16
 have w1:=H.bytes_all x.f
 have u2:=b16 hy.s
 have w2:=H.bytes_all y.sgn
 have q:=eqB g16 g16
 rw[decide_eq_true rfl]at q
 have st1:∀i,i<1->zbd [.slot 1,.slot 3,.slot 21,.slot 22,.slot 23,.key 1,.key 3] (evC gl (call gl tab (d+19)) L15 (S15 f x (ldAV s f sRe [x] 1 f2 sB [x.f] f3 sHd (hds [y])) i))=some (S15 f x (ldAV s f sRe [x] 1 f2 sB [x.f] f3 sHd (hds [y])) (i+1)):=fun i hi=>by
  obtain rfl:i=0:=by omega
  rw[S15,S15,eR,p0,p2]
  simp(disch:=apply zq;omega) only[go_sem,simprocAttr,↓Nat.reduceEqDiff,xx,L15,m15,↓out16_eq,eR,h1,h2,c1,bne_self_eq_false,u1,w1,H.oo]
 have st2:∀i,i<1->zbd [.slot 1,.slot 6,.slot 68,.slot 69,.slot 70,.key 1] (evC gl (call gl tab (d+19)) L15b (S15b f3 x y (ldAV s f sRe [x] 1 f2 sB [x.f] f3 sHd (hds [y])) i))=some (S15b f3 x y (ldAV s f sRe [x] 1 f2 sB [x.f] f3 sHd (hds [y])) (i+1)):=fun i hi=>by
  obtain rfl:i=0:=by omega
  rw[S15b,S15b,eH]
  simp(disch:=apply zq;omega) only[go_sem,simprocAttr,↓Nat.reduceEqDiff,xx,L15b,m15,↓out16_eq,eH,eI,c4',q,bne_self_eq_false,u1,w1,u2,w2,zab,g16,H.oo]
 simp only[L15,L15b,m15,↓out16_eq]at st1 st2
 rw[zad (fd:=fd15) rfl]
 simp(disch:=apply zq;omega) only[go_sem,simprocAttr,↓Nat.reduceEqDiff,xx,fd15,m15,↓out16_eq,c0,eR,H.oo]
 rw[zag (S15 f x (ldAV s f sRe [x] 1 f2 sB [x.f] f3 sHd (hds [y]))) 1 (by unfold LF;omega)]
 rotate_left
 . rw[S15,eR,p0];simp(disch:=apply zq;omega) only[go_sem,simprocAttr,↓Nat.reduceEqDiff,xx,eR]
 . exact st1
 . rw[S15,eR,p1];simp(disch:=apply zq;omega) only[go_sem,simprocAttr,↓Nat.reduceEqDiff,xx,eR]
 rw[S15,eR,p1]
 simp(disch:=apply zq;omega) only[go_sem,simprocAttr,↓Nat.reduceEqDiff,xx,eR,c2,c3,bne_self_eq_false,eH]
 rw[zag (S15b f3 x y (ldAV s f sRe [x] 1 f2 sB [x.f] f3 sHd (hds [y]))) 1 (by unfold LF;omega)]
 rotate_left
 . rw[S15b,eH];simp(disch:=apply zq;omega) only[go_sem,simprocAttr,↓Nat.reduceEqDiff,xx,eR]
 . exact st2
 . rw[S15b,eH];simp(disch:=apply zq;omega) only[go_sem,simprocAttr,↓Nat.reduceEqDiff,xx,eR]
 rw[S15b,eH]
 simp(disch:=apply zq;omega) only[go_sem,simprocAttr,↓Nat.reduceEqDiff,xx,eR]
end Go.Proofs.S44.L
namespace Go.Proofs.S44.L
open Go Go.Ev Go.Proofs Go.Proofs.S44
open Go.Proofs.S44.H (strsAV zaa zai Sml GlK GlR zam zbn nsI zal zdq zint zau encB zaw zaf dig inp)
open Go.Proofs.S44.M (lf zcv Dg dgL dgL_length All16 Sd sB pkAV grw)
variable {gl :Gl} {n:Nat}
def zRe (m:Int):Re:={site:=3,seq:=0,ad:=[],cl:=[],co:=[],sx:=0,lo:=0,hi:=0,hs:=[],tk:=⟨0,0,[],[],zB⟩,pol:=zB,rl:=⟨[],[],[],0,0,0,0,[],zCd,false,0,[]⟩,us:=0,sp:=⟨[],[],0,0,zB,[],0,0,0,0,zB⟩,mo:=m,fr:=0,to:=0,dat:=zB,le:=⟨0,0,0,0,zB⟩,he:=0,ca:=0}
theorem r0 :R64 0:=by unfold R64;omega
theorem r3 :R64 3:=by unfold R64;omega
theorem qhu :CdR zCd:=⟨r0,r0,r0,by simp[zCd],by simp[zCd],by simp[zCd],by simp[zCd],by simp[zCd],by simp[zCd],by simp[zCd]⟩
theorem qht :CdS zCd:=⟨by simp[zCd],⟨by simp[zCd],by simp[zCd]⟩,⟨by simp[zCd],by simp[zCd]⟩,by simp[zCd]⟩
theorem few6 {a b c d e f:Int}(h1:R64 a)(h2:R64 b)(h3:R64 c)(h4:R64 d)(h5:R64 e)(h6:R64 f):zbn [a,b,c,d,e,f]:=za3 h1 (za3 h2 (za3 h3 (za3 h4 (za3 h5 (za3 h6 zev (by simp)) (by simp)) (by simp)) (by simp)) (by simp)) (by simp)
theorem few4 {a b c d:Int}(h:R64 a)(h2:R64 b)(h3:R64 c)(h4:R64 d):zbn [a,b,c,d]:=za3 h (za3 h2 (za3 h3 (za3 h4 zev (by simp)) (by simp)) (by simp)) (by simp)
theorem zR {m:Int}(hm:R64 m):ReR (zRe m) where
 i:=⟨⟨r3,r0,hm,r0,r0,r0,r0,r0⟩,r0,r0,r0⟩
 a:=⟨by simp[zRe],by simp[zRe],by simp[zRe]⟩
 h:=by simp[zRe]
 hh:=by simp[zRe]
 t:=⟨⟨r0,r0⟩,by simp[zRe],by simp[zRe],by simp[zRe]⟩
 tc:=by simp[zRe]
 p:=by simp[zRe]
 r:=⟨⟨r0,r0,r0,r0,r0⟩,⟨by simp[zRe],by simp[zRe],by simp[zRe]⟩,by simp[zRe],by simp[zRe]⟩
 rt:=by simp[zRe]
 rv:=by simp[zRe]
 ra:=qhu
 s:=⟨few6 r0 r0 r0 r0 r0 r0,by simp[zRe],by simp[zRe]⟩
 sb:=⟨by simp[zRe],by simp[zRe],by simp[zRe]⟩
 d:=by simp[zRe]
 l:=⟨few4 r0 r0 r0 r0,by simp[zRe]⟩
theorem zS (m:Int):ReS (zRe m) where
 h:=by simp[zRe]
 c:=by simp[zRe]
 v:=by simp[zRe]
 t:=⟨by simp[zRe],by simp[zRe]⟩
 a:=qht
 hh:=by simp[zRe]
 cc:=by simp[zRe]
 vv:=by simp[zRe]
 w:=⟨by simp[zRe],by simp[zRe]⟩
 s:=⟨by simp[zRe],by simp[zRe],by simp[zRe]⟩
abbrev zA (m:Int):AV:=.agg [i64 3,i64 0,.agg [.str [],.str [],.str [],i64 0,.agg [i64 0,i64 0]],.lst true .sc [],.agg [i64 0,i64 0,.str [],.lst true .sc [],.agg H.out16l],.agg H.out16l,.agg [.str [],.str [],.lst true .sc [],i64 0,i64 0,i64 0,i64 0,.lst true .sc [],.agg [i64 0,i64 0,.str [],.lst true .sc [],.lst true .sc [],.lst true .sc [],i64 0],.bool false,i64 0,.str []],i64 0,.agg [.str [],.str [],i64 0,i64 0,.agg H.out16l,.str [],.agg [i64 0,i64 0],i64 0,i64 0,.agg H.out16l],i64 m,.agg [i64 0,i64 0],.agg H.out16l,.agg [i64 0,i64 0,i64 0,i64 0,.agg H.out16l],i64 0,i64 0]
theorem qhv (m:Int):zA m=z4k (zRe m):=rfl
def zV (m:Int):Rv:=⟨3,0,match zA m with| .agg (_::_::r)=>r|_=>[],leaf (zRe m)⟩
theorem qhs (m:Int):rvAV (zV m)=zA m:=rfl
theorem qdd [Nonempty (GlK gl)]{m:Int}(hm:R64 m):RvOk gl (zV m):=⟨by rfl,zhh _,fun n h=>by
 rw[qhs,qhv];exact z45 h (zR hm) (zS m) rfl rfl rfl rfl⟩
theorem zne :leaf (zRe 1)≠leaf (zRe 0):=by decide +kernel
end Go.Proofs.S44.L
namespace Go.Proofs.S44.L
open Go Go.Ev Go.Proofs Go.Proofs.S44
open Go.Proofs.S44.H (strsAV zaa zai Sml GlK GlR zam zbn nsI zal zdq zint zau encB zaw zaf dig inp)
open Go.Proofs.S44.M (lf zcv Dg dgL dgL_length All16 Sd sB pkAV grw)
variable {gl :Gl} {n:Nat}
abbrev lz :AV:=.agg [i64 0,.lst true .sc [],.agg [i64 0,.lst true .sc []],.lst true .sc []]
theorem z0d (h:2<=n)(a:Int):call gl tab n 11 [i64 a] []=some (.tup [if 0<=a/\a<64 then .agg [i64 a,.lst true .sc [],.agg [i64 0,.lst true .sc []],.lst true .sc []]else lz,i64 (if 0<=a/\a<64 then 0 else 1)],[],[]):=by
 obtain⟨d,rfl⟩:=wA h
 have c:=@site_at gl (d+1) (by omega) a
 rw[zad (fd:=fd11) rfl]
 by_cases hs:0<=a/\a<64
 . rw[decide_eq_true hs]at c
   rw[if_pos hs,if_pos hs]
   simp(disch:=apply zq;omega) only[go_sem,simprocAttr,↓Nat.reduceEqDiff,xx,fd11,m11,c]
 . rw[decide_eq_false hs]at c
   rw[if_neg hs,if_neg hs]
   simp(disch:=apply zq;omega) only[go_sem,simprocAttr,↓Nat.reduceEqDiff,xx,fd11,m11,c]
def k3 :Ky:=⟨1003,1,[115],0,1099511627776⟩
theorem k3_v :VK k3:=⟨by decide,by decide,by decide,by decide,by decide⟩
theorem k3_r :VR [k3]:=⟨by decide,fun i hi=>by
 match i,hi with
 | 0,_=>exact⟨k3_v,fun h=>absurd h (by decide)⟩⟩
theorem qbd (h:1<=n):call gl tab n 20 [i64 3] []=some (.agg [i64 1003,i64 1,.str [115],i64 0,i64 1099511627776],[],[]):=by
 obtain⟨d,rfl⟩:=wA h
 rw[zad (fd:=fd20) rfl]
 simp(disch:=apply zq;omega) only[go_sem,simprocAttr,↓Nat.reduceEqDiff,xx,fd20,m20]
theorem z1b (g:Dg):hdC [k3] (hdS k3 (hd0 3 1 g 10 20))=0:=by
 have e:hdP (hdS k3 (hd0 3 1 g 10 20))=hdP (hdK k3 (hd0 3 1 g 10 20)):=rfl
 have fn1:fnK [k3] 1003 1=some k3:=rfl
 rw[hdC,if_pos (show zir (hdS k3 (hd0 3 1 g 10 20)).site=true from(by decide:zir (3:Int)=true))]
 show ckE [k3] (1000+3) 1 44 (hdP (hdS k3 (hd0 3 1 g 10 20))) (sea k3.k 44 (hdP (hdK k3 (hd0 3 1 g 10 20)))) 10 20=0
 unfold ckE
 rw[show(1000+3:Int)=1003 from rfl,fn1,e]
 simp only
 rw[if_pos (by decide),if_pos trivial]
theorem qgv (g' g:Dg):ckI g' 0 1 [] g=decide (g'=g):=by
 unfold ckI
 rw[Bool.eq_iff_iff,decide_eq_true_eq,decide_eq_true_eq]
 have e1:Mk.dep (Int.toNat 0) (Int.toNat 1)=0:=Mk.dep_one (by decide)
 have e2:Mk.cl M.nd M.z16 g' (Int.toNat 0) (Int.toNat 1) []=g':=by rw[Mk.cl,dif_neg (by decide)]
 rw[e1,e2]
 exact⟨fun h=>h.2.2,fun h=>⟨by omega,rfl,h⟩⟩
abbrev lA1 (g:Dg):AV:=.agg [i64 3,.lst false sRe [zA 0],.agg [i64 1,.lst false sB [.agg (zac g)]],.lst true .sc []]
abbrev hA1 (g sg:Dg):AV:=.agg [i64 3,i64 1,.agg (zac g),.agg [i64 10,i64 20],i64 1,.agg (zac sg)]
set_option maxHeartbeats 2000000 in
theorem zzk [Nonempty (GlK gl)][Nonempty (M.GlB gl)](h:1010<=n):call gl tab n 10 [] []=some (.bool true,[],[]):=by
 obtain⟨d,rfl⟩:=wA h
 have b1:=@z0d gl (d+1009) (by omega) 3
 rw[if_pos (by decide),if_pos (by decide)]at b1
 have b2:=@z0d gl (d+1009) (by omega) 64
 rw[if_neg (by decide),if_neg (by decide)]at b2
 have v0:=qdd (gl:=gl) r0
 have v1:=qdd (gl:=gl) (m:=1) (by unfold R64;omega)
 have a1:=z8o (gl:=gl) (n:=d+1009) (s:=3) (f:=true) (f2:=true) (f3:=true) (sh:=.sc) (sh2:=.sc) (sh3:=.sc) (l:=[]) (t:=[]) (U:=[]) (by omega) (z:=0) v0 (by simp) (.inl rfl) rfl rfl (by simp) (by intro y hy;simp at hy) (.inl rfl) (by omega) ⟨by omega,by omega,Mk.pcn_0.symm⟩
 rw[grw1]at a1
 have a2:=z27 (gl:=gl) (n:=d+1009) (s:=3) (f:=false) (f2:=false) (f3:=true) (sh:=sRe) (sh2:=sB) (sh3:=.sc) (l:=[zV 0]) (t:=[(zV 0).f]) (U:=[]) (z:=1) (by omega) v0 (by simp) (fun h=>absurd h.2 (by decide))
 have g16:=v0.f
 have se:=zzf (gl:=gl) (n:=d+1009) (s:=3) (z:=1) (lo:=10) (hi:=20) (f:=false) (f2:=false) (f3:=true) (sh:=sRe) (sh2:=sB) (sh3:=.sc) (l:=[zV 0]) (t:=[(zV 0).f]) (hs:=[]) (k:=k3) (root:=(zV 0).f) (by omega) k3_v (by omega) (by decide) (by unfold CV;omega) g16 (fun n hn=>top1 hn g16) (by simp) (.inl rfl) (by simp) (by simp) (.inl rfl)
 have hok:HdOk (hdS k3 (hd0 3 1 (zV 0).f 10 20)):=zvd k3_v.ok ⟨za3 r3 (few4 (show R64 1 by unfold R64;omega) (show R64 10 by unfold R64;omega) (show R64 20 by unfold R64;omega) r0) (by simp),g16,by simp⟩
 have pr:=z4q (gl:=gl) (n:=d+1009) (s:=3) (z:=1) (f:=false) (f2:=false) (f3:=false) (sh:=sRe) (sh2:=sB) (sh3:=sHd) (l:=[zV 0]) (t:=[(zV 0).f]) (hs:=[hdS k3 (hd0 3 1 (zV 0).f 10 20)]) (by omega) (.inr rfl) (by simp) (fun x hx=>by simp at hx;subst hx;exact v0) (.inr rfl) (by simp) (fun x hx=>by simp at hx;subst hx;exact hok) (h:=hdS k3 (hd0 3 1 (zV 0).f 10 20)) (by simp) (k:=1) (i:=0) rfl (by simp) (by omega)
 rw[show fs ([zV 0].take 1)=[(zV 0).f]from rfl,qk4]at pr
 have c0:=zun (gl:=gl) (n:=d+1009) (fr:=false) (m:=sY) (ring:=[k3]) (by omega) (.inr rfl) k3_r v0 hok (f:=false) (sh:=sB) (p:=[]) (by intro y hy;simp at hy) (by simp) (.inr rfl)
 have c1:=zun (gl:=gl) (n:=d+1009) (fr:=false) (m:=sY) (ring:=[k3]) (by omega) (.inr rfl) k3_r v1 hok (f:=false) (sh:=sB) (p:=[]) (by intro y hy;simp at hy) (by simp) (.inr rfl)
 have va:=zyw (gl:=gl) (n:=d+1009) (by omega) (s:=3) (by omega) (f:=false) (f2:=false) (f3:=false) v0 rfl rfl (y:=hdS k3 (hd0 3 1 (zV 0).f 10 20)) hok rfl rfl rfl
 have lf0:=v0.l (d+1009) (by omega)
 have q0:ckS [k3] (zV 0) (hdS k3 (hd0 3 1 (zV 0).f 10 20)) []=0:=by
  unfold ckS
  rw[z1b]
  show fE [mE (3==3) 1,0,mE (ckI (zV 0).f 0 1 [] (zV 0).f) 3]=0
  rw[qgv,decide_eq_true rfl];rfl
 have q1:ckS [k3] (zV 1) (hdS k3 (hd0 3 1 (zV 0).f 10 20)) []=3:=by
  unfold ckS
  rw[z1b]
  show fE [mE (3==3) 1,0,mE (ckI (zV 1).f 0 1 [] (zV 0).f) 3]=3
  rw[qgv,decide_eq_false (show ¬(zV 1).f=(zV 0).f from zne)];rfl
 rw[q0]at c0
 rw[q1]at c1
 clear q0 q1 v0 v1 hok
 have ky:=@qbd gl (d+1009) (by omega)
 have key:∀g sg:List UInt8,g=(zV 0).f->sg=(hdS k3 (hd0 3 1 (zV 0).f 10 20)).sgn->call gl tab (d+1010) 10 [] []=some (.bool true,[],[]):=fun g sg hg hsg=>by
  rw[<-hg]at hsg g16
  rw[<-hg]at a1 a2 se pr c0 c1 va lf0
  replace a1:call gl tab (d+1009) 16 [.agg [i64 3,.lst true .sc [],.agg [i64 0,.lst true .sc []],.lst true .sc []],zA 0] []=some (.tup [lA1 g,i64 0],[],[]):=a1
  replace a2:call gl tab (d+1009) 16 [lA1 g,zA 0] []=some (.tup [lA1 g,i64 1],[],[]):=a2
  have eh:hdAV (hdS k3 (hd0 3 1 g 10 20))=hA1 g sg:=by rw[hsg];rfl
  replace se:call gl tab (d+1009) 18 [lA1 g,.agg [i64 1003,i64 1,.str [115],i64 0,i64 1099511627776],.agg [i64 10,i64 20]] []=some (.tup [.agg [i64 3,.lst false sRe [zA 0],.agg [i64 1,.lst false sB [.agg (zac g)]],.lst false sHd [hdAV (hdS k3 (hd0 3 1 g 10 20))]],hdAV (hdS k3 (hd0 3 1 g 10 20)),i64 0],[],[]):=se
  replace pr:call gl tab (d+1009) 21 [.agg [i64 3,.lst false sRe [zA 0],.agg [i64 1,.lst false sB [.agg (zac g)]],.lst false sHd [hdAV (hdS k3 (hd0 3 1 g 10 20))]],i64 0,hdAV (hdS k3 (hd0 3 1 g 10 20))] []=some (.tup [.agg [zA 0,hdAV (hdS k3 (hd0 3 1 g 10 20)),.lst false sB []],i64 0],[],[]):=pr
  replace c0:call gl tab (d+1009) 22 [.lst false sY [.agg [i64 1003,i64 1,.str [115],i64 0,i64 1099511627776]],.agg [zA 0,hdAV (hdS k3 (hd0 3 1 g 10 20)),.lst false sB []]] []=some (i64 0,[],[]):=c0
  replace c1:call gl tab (d+1009) 22 [.lst false sY [.agg [i64 1003,i64 1,.str [115],i64 0,i64 1099511627776]],.agg [zA 1,hdAV (hdS k3 (hd0 3 1 g 10 20)),.lst false sB []]] []=some (i64 3,[],[]):=c1
  replace va:call gl tab (d+1009) 15 [.agg [i64 3,.lst false sRe [zA 0],.agg [i64 1,.lst false sB [.agg (zac g)]],.lst false sHd [hdAV (hdS k3 (hd0 3 1 g 10 20))]]] []=some (.bool true,[],[]):=va
  replace lf0:call gl tab (d+1009) 28 [zA 0] []=some (.agg (zac g),[],[]):=lf0
  have sg16:sg.length=16:=by rw[hsg];exact zot _ _ _
  rw[eh]at se pr c0 c1 va
  clear eh hsg hg
  have u1:=b16 g16
  have u2:=b16 sg16
  have w1:=H.bytes_all g
  have w2:=H.bytes_all sg
  have q:=eqB g16 g16
  rw[decide_eq_true rfl]at q
  rw[zad (fd:=fd10) rfl]
  simp(maxSteps:=1000000) (disch:=apply zq;omega) only[go_sem,simprocAttr,↓Nat.reduceEqDiff,xx,fd10,m10,↓out16_eq,b1,b2,a1,a2,ky,se,pr,c0,c1,va,lf0,u1,u2,w1,w2,q,g16,sg16,zab,H.oo]
 exact key _ _ rfl rfl
end Go.Proofs.S44.L
namespace Go.Proofs.S44.L
open Go Go.Ev Go.Proofs Go.Proofs.S44
open Go.Proofs.S44.H (strsAV zaa zai Sml GlK GlR)
open Go.Proofs.S44.M (lf zcv Dg dgL dgL_length All16 Sd sB pkAV grw)
variable {gl :Gl} {n:Nat}
def RvR (gl:Gl)(x:Rv):Prop:=∀n,12<=n->call gl tab n 26 [rvAV x] []=some (bAV x.f,[],[])
def L49 :MC:=match m49 with| .seq _ (.seq _ (.seq (.seq _ (.block _ (.loop _ b))) _))=>b|_=>.skip
def S49 (k:Nat)(ld:AV)(l:List Rv)(i:Nat):St:=⟨[.set 6 (i64 i),.set 5 (.sl 5005 [] 0 i),.set 2 (.ptr 2 []),.set 1 (i64 k)],[(2,.fix sLd ld),(5005,.grow (.ar 16 .sc) (dgL ((fs l).take i)))]⟩
section
variable {s z:Int} {f f2 f3:Bool} {sh sh2 sh3:Sh} {l:List Rv} {t:List Dg} {U:List AV}
theorem qd1 {d:Nat}(hd:12<=d)(hs:Sr l sh)(hl:l.length<=60000)(ok:∀x∈l,RvOk gl x)(ok':∀x∈l,RvR gl x)(k i:Nat)(hk:k<=l.length)(hi:i<k) :
  zbd [.slot 1,.slot 2,.own 5 5005 (.ar 16 .sc),.slot 6,.key 2] (evC gl (call gl tab d) L49 (S49 k (ldAV s f sh l z f2 sh2 t f3 sh3 U) l i))=some (S49 k (ldAV s f sh l z f2 sh2 t f3 sh3 U) l (i+1)):=by
 obtain rfl:sh=sRe:=hs.resolve_left (fun e=>by subst e;simp at hk;omega)
 have hx:=zhp (l:=l) (i:=i) (by omega)
 have hm:=zfc (l:=l) (i:=i) (by omega)
 have h1:=(ok _ hm).sh
 have h2:=ok' _ hm d hd
 have q:=H.bytes_all (rat l i).f
 have q2:=b16 (ok _ hm).f
 have hL:=zaz l
 have lt:((fs l).take i).length=i:=by rw[List.length_take,zan];omega
 have ld:=dgL_length ((fs l).take i)
 have hLim:i+1<=LIM:=by unfold LIM;omega
 rw[lt]at ld
 rw[S49,S49,ztj (by omega)]
 generalize (fs l).take i=a at *
 generalize rat l i=y at *
 clear hm
 simp(disch:=apply zq;omega) only[go_sem,simprocAttr,↓Nat.reduceEqDiff,xx,L49,m49,↓out16_eq,hx,hL,h1,h2,q,q2,ld,hLim,zvt,M.dgL_length,lt,H.oo,H.noImms_bytesAV]
theorem zng (h:13<=n)(hs:Sr l sh)(hl:l.length<=60000)(ok:∀x∈l,RvOk gl x)(ok':∀x∈l,RvR gl x){k:Nat}(hk:k<=l.length) :
  call gl tab n 49 [ldAV s f sh l z f2 sh2 t f3 sh3 U,i64 k] []=some (.lst false sB (dgL ((fs l).take k)),[],[]):=by
 obtain⟨d,rfl⟩:=wA h
 have st:=fun i hi=>@qd1 gl s z f f2 f3 sh sh2 sh3 l t U (d+12) (by omega) hs hl ok ok' k i hk hi
 simp only[L49,m49,↓out16_eq]at st
 have lt:((fs l).take k).length=k:=by rw[List.length_take,zan];omega
 have ld:=dgL_length ((fs l).take k)
 have ta:List.take k (dgL ((fs l).take k))=dgL ((fs l).take k):=List.take_of_length_le (by rw[ld];omega)
 rw[zad (fd:=fd49) rfl]
 simp(disch:=apply zq;omega) only[go_sem,simprocAttr,↓Nat.reduceEqDiff,xx,fd49,m49,↓out16_eq,H.oo]
 rw[zag (S49 k (ldAV s f sh l z f2 sh2 t f3 sh3 U) l) k (by unfold LF;omega)]
 . rw[S49];simp(disch:=apply zq;omega) only[go_sem,simprocAttr,↓Nat.reduceEqDiff,xx,ld,ta,lt]
 . rw[S49,List.take_zero];simp(disch:=apply zq;omega) only[go_sem,simprocAttr,↓Nat.reduceEqDiff,xx];rfl
 . exact st
 . rw[S49];simp(disch:=apply zq;omega) only[go_sem,simprocAttr,↓Nat.reduceEqDiff,xx,ld]
end
end Go.Proofs.S44.L
