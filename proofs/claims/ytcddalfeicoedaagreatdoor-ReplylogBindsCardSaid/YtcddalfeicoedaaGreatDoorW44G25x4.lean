/-
  Chapter 44: the law on what a ledger binds. No condition.
-/
import Derived.Test.YtcddalfeicoedaaGreatDoorW44G24x4
import Derived.Test.YtcddalfeicoedaaGreatDoorW44G17x4
import Derived.Test.YtcddalfeicoedaaGreatDoorW44G6x4
import Derived.Test.YtcddalfeicoedaaGreatDoorCards
import Derived.Test.YtcddalfeicoedaaGreatDoorTie
import Derived.ProofKit
import Derived.OpenShut
import Derived.Deep.DeepHandedRow
import Derived.Lib.LaidTab
import Derived.MakeChecks
set_option linter.all false
open List renaming mem_cons_of_mem->wA,length_map->wB,mem_cons_self->wC,getD_eq_getElem?_getD->wD,getElem?_eq_getElem->wE,take_of_length_le->wF
namespace Go.Proofs.S44.L
open Go Go.Ev Go.Proofs Go.Proofs.S44
open Go.Proofs.S44.H (GlK GlR)
open Go.Proofs.S44.M (Dg dgL All16 sB pkAV P8 R8)
variable {gl :Gl} {n:Nat}
def L4 :MC:=match m4 with| .seq _ (.seq _ (.seq _ (.seq _ (.seq (.seq _ (.block _ (.loop _ b))) _))))=>b|_=>.skip
def S4 (r:List Re)(o:Rv)(p:Int)(i:Nat):St:=⟨[.set 10 (i64 i),.set 8 (.ptr 8 []),.set 5 (.ptr 5 []),.set 1 (.int .u8 p),.set 0 (.lst false sRe (rvs (r.map toRv)))],[(8,.fix sLd (.agg [i64 7,wl r i,.agg [i64 i,wt r i],.lst true .sc []])),(5,.fix sRe (rvAV o))]⟩
section
variable {r :List Re} {o:Rv} {p:Int} {d i:Nat}
theorem qc5 [Nonempty (GlK gl)][Nonempty (M.GlB gl)](hd:20<=d)(hl:r.length<=12)(hi:i<r.length)(ro:RsOk r (i+1))(c:call gl tab d 9 [rvAV (toRv (reat r i))] []=some (.bool true,[],[])) :
  zbm [.slot 0,.slot 1,.slot 5,.slot 8,.slot 10,.key 5,.key 8] (evC gl (call gl tab d) L4 (S4 r o p i))=some (S4 r o p (i+1)):=by
 have hx:=zt2 (l:=r.map toRv) (i:=i) (by rw[wB];exact hi)
 rw[zt8 hi]at hx
 have hL:=zb8 (r.map toRv)
 rw[wB]at hL
 have h1:=zkz (ro.r _ (zkl hi))
 have g:=grow_at (gl:=gl) (n:=d) (by omega) ro true .sc []
 obtain⟨f,sh,e1,_⟩:=z7y r i
 obtain⟨f2,sh2,e2,_⟩:=z7v r i
 have e3:wl r (i+1)= .lst false sRe (rvs (ws r (i+1))):=rfl
 have e4:wt r (i+1)= .lst false sB (dgL (P8 (fs (ws r (i+1))) (i+1))):=rfl
 rw[S4,S4]
 rw[e3,e4]at g ⊢
 rw[e1,e2]at g ⊢
 have e5:rvAV (toRv (at7 (reat r i) i))= .agg (i64 7::i64 i::(toRv (reat r i)).r):=rfl
 rw[e5]at g
 generalize toRv (reat r i)=y at *
 generalize rvs (ws r i)=a1 at *
 generalize rvs (ws r (i+1))=a2 at *
 generalize dgL (P8 (fs (ws r i)) i)=a3 at *
 generalize dgL (P8 (fs (ws r (i+1))) (i+1))=a4 at *
 generalize rvs (r.map toRv)=a5 at *
 clear e3 e4 e1 e2 e5 ro
 simp(disch:=apply zq;omega) only[go_sem,simprocAttr,↓Nat.reduceEqDiff,xx,L4,m4,↓out16_eq,H.oo,hx,hL,h1,c,g]
theorem bad4 (hd:20<=d)(hl:r.length<=12)(hi:i<r.length)(rr:∀y∈r,ReR y)(c:call gl tab d 9 [rvAV (toRv (reat r i))] []=some (.bool false,[],[]))(ca:call gl tab d 10 [] []=some (.bool true,[],[])) :
  out1 6 (evC gl (call gl tab d) L4 (S4 r o p i))=some (.ret,.bool true):=by
 have hx:=zt2 (l:=r.map toRv) (i:=i) (by rw[wB];exact hi)
 rw[zt8 hi]at hx
 have hL:=zb8 (r.map toRv)
 rw[wB]at hL
 have h1:=zkz (rr _ (zkl hi))
 obtain⟨f,sh,e1,_⟩:=z7y r i
 obtain⟨f2,sh2,e2,_⟩:=z7v r i
 rw[S4,e1,e2]
 generalize toRv (reat r i)=y at *
 generalize rvs (r.map toRv)=a5 at *
 simp(disch:=apply zq;omega) only[go_sem,simprocAttr,↓Nat.reduceEqDiff,xx,L4,m4,↓out16_eq,H.oo,hx,hL,h1,c,ca]
end
theorem z9c (y z:Nat)(h:0<z):zas .rem .i64 (y:Int) (z:Int)=some (i64 ((y%z:Nat):Int)):=by
 show(if(z:Int)=0 then none else some (AV.int .i64 (Int.tmod (y:Int) z)))=_
 rw[if_neg (by omega),Int.ofNat_tmod]
theorem qi9 {a:AV}(h:HasKd (.sl kRe) a):∃r:List Re,a= .lst false sRe (rvs (r.map toRv))/\r.length<=ML/\∀y∈r,ReR y:=by
 obtain⟨l,rfl,h21,h22⟩:=h
 obtain⟨r,rfl,hr⟩:=z65 h22
 exact⟨r,rfl,by rw[zb8,wB]at h21;exact zsn h21,hr⟩
structure Done (gl:Gl)(n:Nat)(r:List Re)(i:Nat)(y:Re):Prop where
 all:∃g:Hd,∃p:List Dg,∃b:Bool,HdOk g/\All16 p/\p.length<=1000/\g.size=r.length /\
  call gl tab n 18 [.agg [i64 7,.lst false sRe (rvs (ws r r.length)),.agg [i64 r.length,.lst false sB (dgL (P8 (fs (ws r r.length)) r.length))],.lst true .sc []],ky k7,.agg [i64 1,i64 2]] [] =
   some (.tup [.agg [i64 7,.lst false sRe (rvs (ws r r.length)),.agg [i64 r.length,.lst false sB (dgL (P8 (fs (ws r r.length)) r.length))],.lst false sHd (hds [g])],hdAV g,i64 0],[],[]) /\
  call gl tab n 21 [.agg [i64 7,.lst false sRe (rvs (ws r r.length)),.agg [i64 r.length,.lst false sB (dgL (P8 (fs (ws r r.length)) r.length))],.lst false sHd (hds [g])],i64 i,hdAV g] [] =
   some (.tup [.agg [rvAV (toRv (at7 (reat r i) i)),hdAV g,.lst false sB (dgL p)],i64 0],[],[]) /\
  call gl tab n 22 [.lst false sY [ky k7],.agg [rvAV (toRv (at7 y i)),hdAV g,.lst false sB (dgL p)]] []=some (i64 (if b=true then 0 else 3),[],[]) /\
  call gl tab n 25 [bAV (leaf (at7 y i)),i64 i,i64 r.length,.lst false sB (dgL p),bAV g.root] []=some (.bool b,[],[]) /\
  (reP (at7 y i)=reP (at7 (reat r i) i)->b=true)
set_option maxHeartbeats 1000000 in
theorem qbc [Nonempty (GlK gl)][Nonempty (GlR gl)][Nonempty (M.GlB gl)](hn:2000<=n){r:List Re}(o:RsOk r r.length)(hl:r.length<=12){i:Nat}(hi:i<r.length){y:Re}(ry:ReR y)(sy:ReS y):Done gl n r i y:=by
 have wl:=zfb r r.length
 have fl:(fs (ws r r.length)).length=r.length:=by rw[zb1,wl]
 have al:=o.all16
 have ht:P8 (fs (ws r r.length)) r.length≠[]:=by
  obtain⟨m,hm⟩:∃m,r.length=m+1:=⟨r.length-1,by omega⟩
  have:=M.P8_ne (l:=fs (ws r r.length)) (k:=m) (by omega)
  rw[hm]at this ⊢
  exact this
 have F:M.Form (r.length:Nat) (P8 (fs (ws r r.length)) r.length):=M.P8_form (by omega) (by omega)
 have a8:All16 (P8 (fs (ws r r.length)) r.length):=M.P8_all _ _ (by omega) al
 have l8:(P8 (fs (ws r r.length)) r.length).length<=60000:=M.P8_le _ (by omega) (by omega)
 have hr:(R8 (fs (ws r r.length)) r.length).length=16:=M.R8_len al _
 have ct:∀m,14<=m->call gl tab m 60 [pkAV r.length false sB (P8 (fs (ws r r.length)) r.length)] []=some (.tup [bAV (R8 (fs (ws r r.length)) r.length),i64 0],[],[]):=fun m hm=>by
  have e:=M.top_ok (gl:=gl) (f:=false) hm (by omega) a8 ht (by omega) F
  rw[M.topV8]at e
  exact e
 have c1:=@zyr gl n 7 r.length 1 2 false false true sRe sB .sc (ws r r.length) (P8 (fs (ws r r.length)) r.length) [] k7 _ _ (by omega) k7_v (by omega) (by decide) (by unfold CV;omega) hr ct (by omega) (.inl rfl) (by simp) (by simp) (.inl rfl)
 rw[wl]at c1
 have hok:HdOk (hdS k7 (hd0 7 r.length (R8 (fs (ws r r.length)) r.length) 1 2)):=z0k k7_v.ok ⟨zbo (show R64 7 by unfold R64;omega) (few4 (show R64 (r.length:Int) by unfold R64;omega) (show R64 1 by unfold R64;omega) (show R64 2 by unfold R64;omega) r0) (by simp),hr,by simp⟩
 have c2:=@zua gl n 7 r.length false false false sRe sB sHd (ws r r.length) (P8 (fs (ws r r.length)) r.length) [hdS k7 (hd0 7 r.length (R8 (fs (ws r r.length)) r.length) 1 2)] _ (by omega) (.inr rfl) (by omega) o.ok (.inr rfl) (by simp) (by simpa using hok) (hdS k7 (hd0 7 r.length (R8 (fs (ws r r.length)) r.length) 1 2)) (by simp) r.length i rfl (by omega) hi
 rw[z7w r _ _ hi,wF (by omega)]at c2
 have il:=M.incl_le _ (fs (ws r r.length)) i (Nat.le_refl _)
 have ia:=M.incl_all _ (fs (ws r r.length)) i (Nat.le_refl _) al
 have xo:=zn8 (gl:=gl) (qbz ry (k:=i) (by omega)) (z2n sy i)
 have c3:=zoj (gl:=gl) (n:=n) (fr:=false) (m:=sY) (ring:=[k7]) (by omega) (.inr rfl) k7_r xo hok (f:=false) (sh:=sB) (p:=Mk.incl M.nd M.em (fs (ws r r.length)) i) ia (by omega) (.inr rfl)
 have c4:=z9h (gl:=gl) (n:=n) (leaf:=leaf (at7 y i)) (root:=(hdS k7 (hd0 7 r.length (R8 (fs (ws r r.length)) r.length) 1 2)).root) (i:=i) (N:=r.length) (f:=false) (sh:=sB) (p:=Mk.incl M.nd M.em (fs (ws r r.length)) i) (by omega) (zey _) hr ia (by omega) (.inr rfl)
 have ek:ckS [k7] (toRv (at7 y i)) (hdS k7 (hd0 7 r.length (R8 (fs (ws r r.length)) r.length) 1 2)) (Mk.incl M.nd M.em (fs (ws r r.length)) i) =
   if ckI (leaf (at7 y i)) i r.length (Mk.incl M.nd M.em (fs (ws r r.length)) i) (R8 (fs (ws r r.length)) r.length)=true then 0 else 3:=by
  unfold ckS
  rw[z4k _ _ (by decide)]
  show fE [mE ((7:Int)==7) 1,0,mE (ckI (leaf (at7 y i)) i r.length (Mk.incl M.nd M.em (fs (ws r r.length)) i) (R8 (fs (ws r r.length)) r.length)) 3]=_
  generalize ckI (leaf (at7 y i)) i r.length (Mk.incl M.nd M.em (fs (ws r r.length)) i) (R8 (fs (ws r r.length)) r.length)=b
  cases b<;>rfl
 rw[ek]at c3
 refine⟨_,_,_,hok,ia,by omega,rfl,c1,c2,c3,c4,fun e=> ?_⟩
 have e1:leaf (at7 y i)=M.dgA (fs (ws r r.length)) i:=by
  have h:=z7w r _ _ hi
  rw[leaf,e,<-leaf]
  rw[M.dgA,wD,wE (by omega),Option.getD_some]
  simp only[fs,List.getElem_map]
  rw[rat,wD,wE (by omega),Option.getD_some]at h
  rw[h];rfl
 have e2:R8 (fs (ws r r.length)) r.length=Mk.rt M.nd M.em (fs (ws r r.length)):=by rw[R8,wF (by omega)]
 have h:=qbq (l:=fs (ws r r.length)) (i:=i) (by omega) (by omega)
 rw[fl]at h
 show ckI (leaf (at7 y i)) i r.length _ (R8 (fs (ws r r.length)) r.length)=true
 rw[e1,e2]
 exact h
set_option maxHeartbeats 2000000 in
theorem law4 [Nonempty (GlK gl)][Nonempty (GlR gl)][Nonempty (M.GlB gl)](hn:2010<=n)(ar:List AV)(h:HasKds [.sl kRe,.int .u8,kRe] ar):call gl tab (n+1) 4 ar []=some (.bool true,[],[]):=by
 simp only[HasKds]at h
 obtain⟨_,_,rfl,h1,_,_,rfl,h2,_,_,rfl,h3,rfl⟩:=h
 obtain⟨r,rfl,rl,rr⟩:=qi9 h1
 obtain⟨b,rfl⟩:=z2e h2
 obtain⟨y,rfl,ry⟩:=qeb h3
 clear h1 h2 h3
 have hb:=b.toNat_lt
 have ca:=@zyw gl n _ _ (by omega)
 obtain⟨bs,hs,cs⟩:=@z7k gl n (by omega) y ry
 unfold ML at rl
 have sy:=zkz ry
 have hL:(rvs (r.map toRv)).length=r.length:=by rw[zb8,wB]
 rw[<-zn9]at cs ⊢
 by_cases g0:r.length=0
 . generalize rvs (r.map toRv)=l at *
   generalize toRv y=y' at *
   rw[g0]at hL
   rw[zaf (fd:=fd4) rfl]
   simp(maxSteps:=1000000) (disch:=apply zq;omega) only[go_sem,simprocAttr,↓Nat.reduceEqDiff,xx,fd4,m4,↓out16_eq,ca,cs,sy,hL,H.oo]
 have g0':((r.length:Int)==0)=false:=by rw[beq_eq_false_iff_ne];omega
 by_cases g1:r.length<=12
 rotate_left
 . generalize rvs (r.map toRv)=l at *
   generalize toRv y=y' at *
   rw[zaf (fd:=fd4) rfl]
   simp(maxSteps:=1000000) (disch:=apply zq;omega) only[go_sem,simprocAttr,↓Nat.reduceEqDiff,xx,fd4,m4,↓out16_eq,ca,cs,sy,hL,g0',H.oo]
 cases bs
 case false =>
  generalize rvs (r.map toRv)=l at *
  generalize toRv y=y' at *
  rw[zaf (fd:=fd4) rfl]
  simp(maxSteps:=1000000) (disch:=apply zq;omega) only[go_sem,simprocAttr,↓Nat.reduceEqDiff,xx,fd4,m4,↓out16_eq,ca,cs,sy,hL,g0',H.oo]
 have sy':=hs rfl
 obtain⟨B,hB⟩:=z9l (N:=r.length) (P:=fun i b=>call gl tab n 9 [rvAV (toRv (reat r i))] []=some (.bool b,[],[])/\(b=true->ReS (reat r i))) fun i hi=>by
  obtain⟨b,hb,c⟩:=@z7k gl n (by omega) (reat r i) (rr _ (zkl hi))
  exact⟨b,by rw[zn9];exact c,hb⟩
 have cn:=@zzo gl n (by omega) 7
 rw[if_pos (by decide),if_pos (by decide)]at cn
 rcases zc9 (fun i=>B i=true) r.length with hA|⟨q,hq,hb',he⟩
 rotate_left
 . have e1:B q=false:=by cases h:B q<;>simp_all
   obtain⟨st',hs1,hg⟩:=zeu (@bad4 gl r (toRv y) b.toNat n q (by omega) g1 hq rr (by have:=(hB q hq).1;rw[e1]at this;exact this) ca)
   have hs2:=fun i (hi:i<q)=>@qc5 gl r (toRv y) b.toNat n i _ _ (by omega) g1 (by omega) ⟨by omega,by omega,fun j hj=>(hB j (by omega)).2 (hb' j (by omega)),rr⟩ (by have:=(hB i (by omega)).1;rw[hb' i hi]at this;exact this)
   simp only[L4,m4,↓out16_eq]at hs1 hs2
   clear hB hb' he e1
   rw[zaf (fd:=fd4) rfl]
   simp(maxSteps:=1000000) (disch:=apply zq;omega) only[go_sem,simprocAttr,↓Nat.reduceEqDiff,xx,fd4,m4,↓out16_eq,ca,cs,cn,sy,hL,g0',H.oo]
   rw[zam (S4 r (toRv y) b.toNat) q (by unfold LF;omega),hs1]
   . simp(disch:=apply zq;omega) only[go_sem,simprocAttr,↓Nat.reduceEqDiff,xx,hg]
   . rw[S4];simp(disch:=apply zq;omega) only[go_sem,simprocAttr,↓Nat.reduceEqDiff,xx,hL,wl,wt]
   . exact hs2
   . rw[hs1];rfl
 have o:RsOk r r.length:=⟨by omega,Nat.le_refl _,fun j hj=>(hB j hj).2 (hA j hj),rr⟩
 have hs2:=fun i (hi:i<r.length)=>@qc5 gl r (toRv y) b.toNat n i _ _ (by omega) g1 hi ⟨by omega,by omega,fun j hj=>(hB j (by omega)).2 (hA j (by omega)),rr⟩ (by have:=(hB i hi).1;rw[hA i hi]at this;exact this)
 simp only[L4,m4,↓out16_eq]at hs2
 have hi:b.toNat%r.length<r.length:=Nat.mod_lt _ (by omega)
 have hr:=z9c b.toNat r.length (by omega)
 obtain⟨g,p,t,d1,d2,d3,d4,d5,d6,d7,d8,d9⟩:=(qbc (gl:=gl) (n:=n) (by omega) o g1 hi ry sy').all
 have y1:=qbz ry (k:=b.toNat%r.length) (by omega)
 have y2:=z2n sy' (b.toNat%r.length)
 have y3:=o.R hi
 have y4:=z2n (o.s _ hi) (b.toNat%r.length)
 have c1:=@zoz gl n (by omega) _ (y2.ok y1)
 have c2:=@zoz gl n (by omega) _ (y4.ok y3)
 have c3:=@z20 gl n (by omega) false false (reP (at7 y (b.toNat%r.length))) (reP (at7 (reat r (b.toNat%r.length)) (b.toNat%r.length))) (by have:=zou y2;omega) (by have:=zou y4;omega)
 have c4:=qcm (gl:=gl) y1 y2 n (by omega)
 have ck:=@qae gl n (by omega)
 have u1:=b16 d1.r
 have u2:=b16 d1.s
 have w1:=H.bytes_all g.root
 have w2:=H.bytes_all g.sgn
 have sh3:=zkz y3
 have e1:rvAV (toRv (at7 y (b.toNat%r.length)))= .agg (i64 7::i64 ((b.toNat%r.length:Nat):Int)::(toRv y).r):=rfl
 have e2:rvAV (toRv (at7 (reat r (b.toNat%r.length)) (b.toNat%r.length)))= .agg (i64 7::i64 ((b.toNat%r.length:Nat):Int)::(toRv (at7 (reat r (b.toNat%r.length)) (b.toNat%r.length))).r):=rfl
 rw[<-zn9,e1]at c1
 rw[<-zn9,e2]at c2
 rw[e1]at c4 d7
 rw[e2]at d6
 have u3:=b16 (zey (at7 y (b.toNat%r.length)))
 have w3:=H.bytes_all (leaf (at7 y (b.toNat%r.length)))
 replace c4:call gl tab n 26 [.agg (i64 7::i64 ((b.toNat%r.length:Nat):Int)::(toRv y).r)] []=some (bAV (leaf (at7 y (b.toNat%r.length))),[],[]):=c4
 have cK:call gl tab n 20 [i64 7] []=some (.agg [i64 1007,i64 1,.str [115],i64 0,i64 1099511627776],[],[]):=ck
 have eK:ky k7= .agg [i64 1007,i64 1,.str [115],i64 0,i64 1099511627776]:=rfl
 rw[eK]at d5 d7
 obtain⟨m,hm⟩:∃m,r.length=m+1:=⟨r.length-1,by omega⟩
 have eS:S4 r (toRv y) b.toNat r.length=⟨[.set 10 (i64 r.length),.set 8 (.ptr 8 []),.set 5 (.ptr 5 []),.set 1 (.int .u8 b.toNat),.set 0 (.lst false sRe (rvs (r.map toRv)))],[(8,.fix sLd (.agg [i64 7,.lst false sRe (rvs (ws r r.length)),.agg [i64 r.length,.lst false sB (dgL (P8 (fs (ws r r.length)) r.length))],.lst true .sc []])),(5,.fix sRe (rvAV (toRv y)))]⟩:=by rw[S4,hm];rfl
 have e3:(g.size:Int)=r.length:=d4
 rw[<-e3]at d8
 have dc:(if t=true then(0:Int)else 3)=if t=true then 0 else 3:=rfl
 rw[zaf (fd:=fd4) rfl]
 simp(maxSteps:=1000000) (disch:=apply zq;omega) only[go_sem,simprocAttr,↓Nat.reduceEqDiff,xx,fd4,m4,↓out16_eq,ca,cs,cn,sy,hL,g0',H.oo]
 rw[zam (S4 r (toRv y) b.toNat) r.length (by unfold LF;omega)]
 . rw[eS]
   clear eS hs2 hB hA o y1 y2 y3 y4 hm
   generalize toRv (at7 (reat r (b.toNat%r.length)) (b.toNat%r.length))=v at *
   generalize toRv y=v' at *
   generalize leaf (at7 y (b.toNat%r.length))=lf' at *
   generalize b.toNat%r.length=i at *
   by_cases e:reP (at7 y i)=reP (at7 (reat r i) i)
   . rw[decide_eq_true e]at c3
     rw[d9 e,if_pos rfl]at d7
     clear d9 e
     generalize reP (at7 y i)=p1 at *
     generalize reP (at7 (reat r i) i)=p2 at *
     generalize rvs (r.map toRv)=l at *
     generalize rvs (ws r r.length)=l2 at *
     generalize dgL (P8 (fs (ws r r.length)) r.length)=l3 at *
     generalize dgL p=l4 at *
     simp(maxSteps:=1000000) (disch:=apply zq;omega) only[go_sem,simprocAttr,↓Nat.reduceEqDiff,xx,↓out16_eq,H.oo,ca,hL,cK,d5,hr,d6,sy,sh3,u1,u2,w1,w2,d7,c1,c2,c3]
   . rw[decide_eq_false e]at c3
     clear d9 e
     generalize reP (at7 y i)=p1 at *
     generalize reP (at7 (reat r i) i)=p2 at *
     generalize rvs (r.map toRv)=l at *
     generalize rvs (ws r r.length)=l2 at *
     generalize dgL (P8 (fs (ws r r.length)) r.length)=l3 at *
     generalize dgL p=l4 at *
     cases t
     . rw[if_neg (by simp)]at d7
       simp(maxSteps:=1000000) (disch:=apply zq;omega) only[go_sem,simprocAttr,↓Nat.reduceEqDiff,xx,↓out16_eq,H.oo,ca,hL,cK,d5,hr,d6,sy,sh3,u1,u2,u3,w1,w2,w3,d7,d8,c1,c2,c3,c4]
     . rw[if_pos rfl]at d7
       simp(maxSteps:=1000000) (disch:=apply zq;omega) only[go_sem,simprocAttr,↓Nat.reduceEqDiff,xx,↓out16_eq,H.oo,ca,hL,cK,d5,hr,d6,sy,sh3,u1,u2,u3,w1,w2,w3,d7,d8,c1,c2,c3,c4]
 . rw[S4];simp(disch:=apply zq;omega) only[go_sem,simprocAttr,↓Nat.reduceEqDiff,xx,hL,wl,wt]
 . exact hs2
 . rw[eS];simp(disch:=apply zq;omega) only[go_sem,simprocAttr,↓Nat.reduceEqDiff,xx,hL]
end Go.Proofs.S44.L
namespace Go.Proofs.YtcddalfeicoedaaGreatDoor
open Go Go.Ev Go.Proofs Go.ChangeShapes Go.WideShapes Go.ChangeAt Go.RowKit
theorem own :ownKnob Tryz.prog.godebug=none:=by kernel_rfl
theorem gBit :Tryz.prog.globalNamed "math/bits.deBruijn64tab" =some 1:=by kernel_rfl
theorem gCon :Tryz.prog.globalNamed "weirgate/hash.constants" =some 2:=by kernel_rfl
theorem gRef :Tryz.prog.globalNamed "weirgate/weirgateref02.constants" =some 3:=by kernel_rfl
theorem qj0 :(Tryz.prog.globals[1]?).map (·.type)=some 189:=by kernel_rfl
theorem qjz :(Tryz.prog.globals[2]?).map (·.type)=some 226:=by kernel_rfl
theorem qjy :(Tryz.prog.globals[3]?).map (·.type)=some 226:=by kernel_rfl
theorem kBit :kdOf Tryz.prog 8 189=some (.ar 64 (.int .u8)):=by kernel_rfl
theorem kCon :kdOf Tryz.prog 8 226=some (.ar 64 (.int .u32)):=by kernel_rfl
theorem qki :AV.agg (zac S44.M.dbl)=avD (H:=Unit) (.ar 64 (.int .u8)) Rows.laid_math_bits_deBruijn64tab:=by kernel_rfl
theorem qkh :AV.agg S44.kA=avD (H:=Unit) (.ar 64 (.int .u32)) Rows.laid_weirgate_hash_constants:=by kernel_rfl
theorem qkg :AV.agg S44.kA=avD (H:=Unit) (.ar 64 (.int .u32)) Rows.laid_weirgate_weirgateref02_constants:=by kernel_rfl
theorem qd9 :laidOutB Tryz.prog=true:=by kernel_rfl
theorem z4v {P:Program}{t t':Nat->Option (Sh×AV)}{ri:Nat->Option RInfo}{f:Nat}{fd:Ev.Fd}(h:FnOk P ⟨t,ri⟩ f fd):FnOk P ⟨t',ri⟩ f fd:=by
 cases h with
 | code h hlt ok=>exact .code h hlt ⟨ok.ok⟩
 | given g h hlt ok=>exact .given g h hlt ok
 | round rid ps sl ma mb hf h ok=>exact .round rid ps sl ma mb hf h ⟨ok.ok⟩
 | dfr D h hlt ok =>
   obtain⟨fn,codes,id,ops,cB,an,im,o,c,h1,h2,h3,h4,h5,h6,h7,h8,h9,h10,h11,h12,h13,h14,h15,h16,h17,fc⟩:=ok.ok
   exact .dfr D h hlt ⟨fn,codes,id,ops,cB,an,im,o,c,h1,h2,h3,h4,h5,h6,h7,h8,h9,h10,h11,h12,h13,h14,h15,h16,h17,⟨fc.ok⟩⟩
noncomputable def gl3:Gl:=⟨fun g=>match g with|1=>some (.ar 64 .sc,.agg (zac S44.M.dbl))|2=>some (.ar 64 .sc,.agg S44.kA)|3=>some (.ar 64 .sc,.agg S44.kA)|_=>none,S44.ri⟩
theorem z75 :∀f fd,S44.tab f=some fd->FnOk Tryz.prog gl3 f fd:=fun f fd h=>z4v (S44.tab_ok f fd h)
theorem qex :Nonempty (S44.H.GlK gl3):=⟨⟨rfl⟩⟩
theorem qew :Nonempty (S44.H.GlR gl3):=⟨⟨rfl⟩⟩
theorem qey :Nonempty (S44.M.GlB gl3):=⟨⟨rfl⟩⟩
abbrev qea :List (String×DataW Unit):=[("math/bits.deBruijn32tab",Rows.laid_math_bits_deBruijn32tab),("math/bits.deBruijn64tab",Rows.laid_math_bits_deBruijn64tab),("weirgate/weirgateref02.constants",Rows.laid_weirgate_weirgateref02_constants),("weirgate/hash.constants",Rows.laid_weirgate_hash_constants)]
theorem qjx {W:World}(h:laidMetH Tryz.prog qea W):TabOk W.heap gl3:=by
 have h:laidMet Tryz.prog qea W:=h
 refine z06 h fun g sh a hg=> ?_
 match g,hg with
 | 0,hg=>cases hg
 | 1,hg =>
   obtain⟨rfl,rfl⟩:=Prod.mk.inj (Option.some.inj hg)
   exact⟨_,wA _ wC,8,189,_,gBit,qj0,kBit,rfl,qki⟩
 | 2,hg =>
   obtain⟨rfl,rfl⟩:=Prod.mk.inj (Option.some.inj hg)
   exact⟨_,wA _ (wA _ (wA _ wC)),8,226,_,gCon,qjz,kCon,rfl,qkh⟩
 | 3,hg =>
   obtain⟨rfl,rfl⟩:=Prod.mk.inj (Option.some.inj hg)
   exact⟨_,wA _ (wA _ wC),8,226,_,gRef,qjy,kCon,rfl,qkg⟩
 | _+4,hg=>cases hg
def zvf :Array Value:=(S44.kList.map fun x=>Value.int .u32 (x.toNat:Int)).toArray
def zxz :Array Value:=([0,1,28,2,29,14,24,3,30,22,20,15,25,17,4,8,31,27,13,23,21,19,16,7,26,12,18,6,11,5,10,9]:List Int).map (fun x=>Value.int .u8 x) |>.toArray
def zxy :Array Value:=(S44.M.dbl.map fun x=>Value.int .u8 (x.toNat:Int)).toArray
def put (vs:Array Value):Obj->Obj
 | .cells _ t frozen=>.cells vs t frozen
 | o=>o
noncomputable def zlz (os:Os):World :=
 {World.holding Tryz.prog os ⟨#[],#[],[]⟩with heap:=((((World.holding Tryz.prog os ⟨#[],#[],[]⟩).heap.modify 0 (put zxz)).modify 1 (put zxy)).modify 2 (put zvf)).modify 3 (put zvf)}
end Go.Proofs.YtcddalfeicoedaaGreatDoor
