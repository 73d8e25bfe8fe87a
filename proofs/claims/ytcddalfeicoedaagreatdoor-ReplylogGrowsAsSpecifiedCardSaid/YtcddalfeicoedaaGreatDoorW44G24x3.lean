/-
  Chapter 44: the law on ledgers that grow. No condition.
-/
import Derived.Test.YtcddalfeicoedaaGreatDoorW44G23x3
import Derived.Test.YtcddalfeicoedaaGreatDoorW44G15x3
import Derived.Test.YtcddalfeicoedaaGreatDoorW44G5x3
import Derived.Test.YtcddalfeicoedaaGreatDoorCards
import Derived.Test.YtcddalfeicoedaaGreatDoorTie
import Derived.ProofKit
import Derived.OpenShut
import Derived.Deep.DeepHandedRow
import Derived.Lib.LaidTab
import Derived.MakeChecks
set_option linter.all false
open List renaming mem_cons_of_mem->wA,mem_singleton->wB,mem_append->wC,mem_cons_self->wD,length_append->wE,length_map->wF,mem_map->wG
namespace Go.Proofs.S44.L
open Go Go.Ev Go.Proofs Go.Proofs.S44
open Go.Proofs.S44.H (GlK GlR)
open Go.Proofs.S44.M (Dg All16 sB pkAV grw P8 R8)
variable {gl :Gl} {n:Nat}
theorem zwo (h:11<=n)(a:Int):call gl tab n 14 [if 0<=a/\a<64 then .agg [i64 a,.lst true .sc [],.agg [i64 0,.lst true .sc []],.lst true .sc []]else lz,if 0<=a/\a<64 then .agg [i64 a,.lst true .sc [],.agg [i64 0,.lst true .sc []],.lst true .sc []]else lz] []=some (.bool true,[],[]):=by
 have e:=fun b=>@zig gl n b 0 true true true true true true .sc .sc .sc .sc .sc .sc [] [] [] h (by simp) (.inl rfl) (.inl rfl) (by intro y hy;simp at hy) (by simp) (by intro y hy;simp at hy) (.inl rfl) (.inl rfl) (.inl rfl) (.inl rfl) (by simp) (by intro y hy;simp at hy)
 by_cases g:0<=a/\a<64
 . rw[if_pos g];exact e a
 . rw[if_neg g];exact e 0
def Ldg (a:AV):Prop:=∃s f sh l z f2 sh2 t f3 sh3 U,a=AV.agg [i64 s,.lst f sh l,.agg [i64 z,.lst f2 sh2 t],.lst f3 sh3 U]
theorem ldg {s z:Int}{f f2 f3:Bool}{sh sh2 sh3:Sh}{l:List Rv}{t:List Dg}{U:List AV}:Ldg (ldAV s f sh l z f2 sh2 t f3 sh3 U):=⟨_,_,_,_,_,_,_,_,_,_,_,rfl⟩
section
variable [Nonempty (GlK gl)] [Nonempty (GlR gl)] [Nonempty (M.GlB gl)]
theorem qcz (hn:1001<=n){x:Lr}(r:LrR x)(s:LrF x)(v:LrV x){y:Re}(ry:ReR y)(sy:ReS y) :
  ∃a b e,Ldg a/\Ldg b/\call gl tab n 16 [lrAV x,reAV y] []=some (.tup [a,i64 e],[],[])/\call gl tab n 17 [lrAV x,reAV y] []=some (.agg [b,hdL0,i64 e],[],[])/\call gl tab n 14 [a,b] []=some (.bool true,[],[])/\call gl tab n 13 [a] []=some (.bool true,[],[]):=by
 have b1:=s.rl
 have b2:=s.hl
 have b3:=s.tl
 have rz:=r.z
 unfold R64 at rz
 have hl:(x.r.map toRv).length=x.r.length:=wF _
 have okS:∀z∈x.r.map toRv,RvS gl z:=fun z hz=>by
  obtain⟨w,hw,rfl⟩:=wG.1 hz
  exact zy0 (r.r w hw) (s.r w hw)
 by_cases g:y.site=x.s/\y.seq=(x.r.map toRv).length
 . have hz:x.z=((x.r.map toRv).length:Nat):=v.2.2.1.1
   have ht:x.t=P8 (fs (x.r.map toRv)) (x.r.map toRv).length:=v.2.2.1.2
   have F:M.Form ((x.r.map toRv).length:Nat) x.t:=by rw[ht];exact M.P8_form (by rw[zan];exact Nat.le_refl _) (by rw[zan];omega)
   have c1:=@z8o gl n x.s false false false sRe sB sHd (x.r.map toRv) x.t (hds x.h) _ _ (by omega) (x.r.map toRv).length (toRv y) (zoj ry sy) (by omega) (.inr rfl) g.1 g.2 (by omega) r.t (.inr rfl) (by omega) F
   have c2:=@qaf gl n x.s false false false sRe sB sHd (x.r.map toRv) x.t (hds x.h) _ (by omega) (x.r.map toRv).length (toRv y) (zi4 ry) (zhh _) (zy1 ry sy) (by omega) (.inr rfl) g.1 g.2 (by omega) r.t (.inr rfl) (by omega) F
   rw[<-hz,zk9]at c1 c2
   have v':=v.app (x:=toRv y) g.1 g.2
   have ok1:∀z∈x.r.map toRv++[toRv y],RvOk gl z:=fun z hz=>by
    rcases wC.1 hz with h|h
    . exact LrR.ok (gl:=gl) r s z h
    . rw[wB.1 h];exact zoj ry sy
   have ok2:∀z∈x.r.map toRv++[toRv y],RvR gl z:=fun z hz=>by
    rcases wC.1 hz with h|h
    . exact LrR.ok' (gl:=gl) r s z h
    . rw[wB.1 h];exact zy1 ry sy
   have ok3:∀z∈x.r.map toRv++[toRv y],RvS gl z:=fun z hz=>by
    rcases wC.1 hz with h|h
    . exact okS z h
    . rw[wB.1 h];exact zy0 ry sy
   have al:All16 (grw (x.r.map toRv).length x.t (toRv y).f):=by
    rw[v'.2.2.1.2];exact M.P8_all _ _ (by rw[zan];exact Nat.le_refl _) (zcp ok1)
   have lg:(grw (x.r.map toRv).length x.t (toRv y).f).length<=60000:=by
    rw[v'.2.2.1.2];exact M.P8_le _ (by rw[zan,wE,hl];simp;omega) (by rw[zan];exact Nat.le_refl _)
   have l':(x.r.map toRv++[toRv y]).length<=800:=by rw[wE,hl];simp;omega
   refine⟨_,_,0,ldg,ldg,c1,c2,?_,?_⟩
   . exact zig (by omega) l' (.inr rfl) (.inr rfl) ok3 lg al (.inr rfl) (.inr rfl) (.inr rfl) (.inr rfl) (by omega) r.h
   . obtain⟨b,c,hb⟩:=@rvalid_at gl n x.s ((x.r.map toRv).length+1:Nat) false false false sRe sB sHd (x.r.map toRv++[toRv y]) (grw (x.r.map toRv).length x.t (toRv y).f) x.h _ _ _ (by omega) (.inr rfl) l' ok1 ok2 (by omega) lg al (.inr rfl) (.inr rfl) (by omega) r.h
     rw[hb.2 v']at c
     exact c
 . refine⟨_,_,1,ldg,ldg,z27 (x:=toRv y) (by omega) (zoj ry sy) (by omega) g,z4m (x:=toRv y) (by omega) (zi4 ry) (by omega) g,?_,?_⟩
   . exact zig (by omega) (by omega) (.inr rfl) (.inr rfl) okS (by omega) r.t (.inr rfl) (.inr rfl) (.inr rfl) (.inr rfl) (by omega) r.h
   . obtain⟨b,c,hb⟩:=@zl3 gl n _ _ _ (by omega) x r s
     rw[hb.2 v]at c
     exact c
theorem z3r (hn:1001<=n){x:Lr}(r:LrR x)(s:LrF x)(v:LrV x){k:Ky}(hk:k.k.length<=100){lo hi:Int} :
  ∃a b g e,Ldg a/\Ldg b/\call gl tab n 18 [lrAV x,ky k,.agg [i64 lo,i64 hi]] []=some (.tup [a,hdAV g,i64 e],[],[])/\call gl tab n 19 [lrAV x,ky k,.agg [i64 lo,i64 hi]] []=some (.agg [b,hdAV g,i64 e],[],[]) /\
   HdOk g/\call gl tab n 14 [a,b] []=some (.bool true,[],[])/\call gl tab n 13 [a] []=some (.bool true,[],[]):=by
 have b1:=s.rl
 have b2:=s.hl
 have b3:=s.tl
 have rz:=r.z
 unfold R64 at rz
 have hl:(x.r.map toRv).length=x.r.length:=wF _
 have okS:∀z∈x.r.map toRv,RvS gl z:=fun z hz=>by
  obtain⟨w,hw,rfl⟩:=wG.1 hz
  exact zy0 (r.r w hw) (s.r w hw)
 have hsame:=@zig gl n x.s x.z false false false false false false sRe sB sHd sRe sB sHd (x.r.map toRv) x.t x.h (by omega) (by omega) (.inr rfl) (.inr rfl) okS (by omega) r.t (.inr rfl) (.inr rfl) (.inr rfl) (.inr rfl) (by omega) r.h
 have hval:call gl tab n 13 [lrAV x] []=some (.bool true,[],[]):=by
  obtain⟨b,c,hb⟩:=@zl3 gl n _ _ _ (by omega) x r s
  rw[hb.2 v]at c
  exact c
 by_cases g:VK k/\k.p=1000+x.s/\CV lo hi
 rotate_left
 . exact⟨_,_,hd00,1,ldg,ldg,z3s (by omega) (by omega) v.1 g,zzo (by omega) (by omega) v.1 g,z1c,hsame,hval⟩
 obtain⟨g1,g2,g3⟩:=g
 by_cases g4:x.h=[]\/(hdat x.h (x.h.length-1)).lo<=lo
 rotate_left
 . exact⟨_,_,hd00,9,ldg,ldg,zze (by omega) g1 v.1 g2 g3 (.inr rfl) (by omega) r.h g4,zwq (by omega) g1 v.1 g2 g3 (.inr rfl) (by omega) r.h g4,z1c,hsame,hval⟩
 have al:=zcp (gl:=gl) (LrR.ok (gl:=gl) r s)
 have hr:(R8 (fs (x.r.map toRv)) (x.r.map toRv).length).length=16:=M.R8_len al _
 have hz:x.z=((x.r.map toRv).length:Nat):=v.2.2.1.1
 have ht:x.t=P8 (fs (x.r.map toRv)) (x.r.map toRv).length:=v.2.2.1.2
 have F:M.Form x.z x.t:=by rw[hz,ht];exact M.P8_form (by rw[zan];exact Nat.le_refl _) (by rw[zan];omega)
 have ct:∀m,14<=m->call gl tab m 60 [pkAV x.z false sB x.t] []=some (.tup [bAV (R8 (fs (x.r.map toRv)) (x.r.map toRv).length),i64 0],[],[]):=fun m hm=>by
  have e:=M.topV8 (fs (x.r.map toRv)) (x.r.map toRv).length
  rw[<-ht]at e
  rw[<-e]
  by_cases h0:x.t=[]
  . rw[h0]at F ⊢
    exact M.top_nil (gl:=gl) (by omega) (by omega) F
  . exact M.top_ok (gl:=gl) hm (by omega) r.t h0 (by omega) F
 have c1:=@zzf gl n x.s x.z lo hi false false false sRe sB sHd (x.r.map toRv) x.t x.h k _ _ (by omega) g1 v.1 g2 g3 hr ct (by omega) (.inr rfl) (by omega) r.h g4
 have c2:=@z3y gl n x.s x.z lo hi false false false sRe sB sHd (x.r.map toRv) x.t x.h k _ hn g1 v.1 g2 g3 (.inr rfl) (by omega) (LrR.ok (gl:=gl) r s) (LrR.ok' (gl:=gl) r s) (.inr rfl) (by omega) r.h g4
 have g3':=g3
 unfold CV at g3'
 have v1:=v.1
 have hok:HdOk (hd0 x.s (x.r.map toRv).length (R8 (fs (x.r.map toRv)) (x.r.map toRv).length) lo hi):=⟨za3 (show R64 x.s by unfold R64;omega) (za3 (show R64 ((x.r.map toRv).length:Int) by unfold R64;omega) (za3 (show R64 lo by unfold R64;omega) (za3 (show R64 hi by unfold R64;omega) (za3 (show R64 0 by unfold R64;omega) zev (by simp)) (by simp)) (by simp)) (by simp)) (by simp),hr,by simp⟩
 have ok2:=zvd g1.ok hok
 have hh:∀w∈x.h++[hdS k (hd0 x.s (x.r.map toRv).length (R8 (fs (x.r.map toRv)) (x.r.map toRv).length) lo hi)],HdOk w:=fun w hw=>by
  rcases wC.1 hw with h|h
  . exact r.h w h
  . rw[wB.1 h];exact ok2
 have v':=v.seal1 (y:=hdS k (hd0 x.s (x.r.map toRv).length (R8 (fs (x.r.map toRv)) (x.r.map toRv).length) lo hi)) rfl rfl rfl g4
 have lh:(x.h++[hdS k (hd0 x.s (x.r.map toRv).length (R8 (fs (x.r.map toRv)) (x.r.map toRv).length) lo hi)]).length<=60000:=by rw[wE];simp;omega
 refine⟨_,_,_,0,ldg,ldg,c1,c2,ok2,?_,?_⟩
 . exact zig (by omega) (by omega) (.inr rfl) (.inr rfl) okS (by omega) r.t (.inr rfl) (.inr rfl) (.inr rfl) (.inr rfl) lh hh
 . obtain⟨b,c,hb⟩:=@rvalid_at gl n x.s x.z false false false sRe sB sHd (x.r.map toRv) x.t _ _ _ _ (by omega) (.inr rfl) (by omega) (LrR.ok (gl:=gl) r s) (LrR.ok' (gl:=gl) r s) (by omega) (by omega) r.t (.inr rfl) (.inr rfl) lh hh
   rw[hb.2 v']at c
   exact c
end
abbrev kPe :Kd:=.st [kI,kI]
abbrev kKy :Kd:=.st [kI,kI,.str,kI,kI]
theorem qkl {a:AV}(h:HasKd kPe a):∃lo hi,a= .agg [i64 lo,i64 hi]:=by
 obtain⟨_,rfl,h⟩:=h
 simp only[HasKds]at h
 obtain⟨_,_,rfl,h1,_,_,rfl,h2,rfl⟩:=h
 obtain⟨a1,rfl,b1⟩:=kd_i h1
 obtain⟨a2,rfl,b2⟩:=kd_i h2
 exact⟨a1,a2,rfl⟩
theorem qko {a:AV}(h:HasKd kKy a):∃k:Ky,a=ky k/\k.k.length<=ML:=by
 obtain⟨_,rfl,h0⟩:=h
 simp only[HasKds]at h0
 obtain⟨_,_,rfl,h1,_,_,rfl,h2,_,_,rfl,h3,_,_,rfl,h4,_,_,rfl,h5,rfl⟩:=h0
 obtain⟨p,rfl,hp⟩:=kd_i h1
 obtain⟨s,rfl,hs⟩:=kd_i h2
 obtain⟨k,rfl,hk⟩:=zd3 h3
 obtain⟨f,rfl,hf⟩:=kd_i h4
 obtain⟨t,rfl,ht⟩:=kd_i h5
 exact⟨⟨p,s,k,f,t⟩,rfl,hk⟩
theorem qaq (h:11<=n)(a:Int):∃b e:Int,call gl tab n 11 [i64 a] []=some (.tup [.agg [i64 b,.lst true .sc [],.agg [i64 0,.lst true .sc []],.lst true .sc []],i64 e],[],[]) /\
  call gl tab n 12 [i64 a] []=some (.agg [.agg [i64 b,.lst true .sc [],.agg [i64 0,.lst true .sc []],.lst true .sc []],hdL0,i64 e],[],[]) /\
  call gl tab n 14 [.agg [i64 b,.lst true .sc [],.agg [i64 0,.lst true .sc []],.lst true .sc []],.agg [i64 b,.lst true .sc [],.agg [i64 0,.lst true .sc []],.lst true .sc []]] []=some (.bool true,[],[]):=by
 have c1:=@z0d gl n (by omega) a
 have c2:=@z93 gl n (by omega) a
 have c3:=@zwo gl n h a
 by_cases g:0<=a/\a<64
 . rw[if_pos g]at c3
   rw[if_pos g,if_pos g]at c1 c2
   exact⟨a,0,c1,c2,c3⟩
 . rw[if_neg g]at c3
   rw[if_neg g,if_neg g]at c1 c2
   exact⟨0,1,c1,c2,c3⟩
set_option maxHeartbeats 2000000 in
theorem law3 [Nonempty (GlK gl)][Nonempty (GlR gl)][Nonempty (M.GlB gl)](hn:2010<=n)(ar:List AV)(h:HasKds [kLd,kRe,kKy,kPe,kI] ar):call gl tab (n+1) 3 ar []=some (.bool true,[],[]):=by
 simp only[HasKds]at h
 obtain⟨_,_,rfl,h1,_,_,rfl,h2,_,_,rfl,h3,_,_,rfl,h4,_,_,rfl,h5,rfl⟩:=h
 obtain⟨x,rfl,rx⟩:=qkn h1
 obtain⟨y,rfl,ry⟩:=qe7 h2
 obtain⟨k,rfl,hk⟩:=qko h3
 obtain⟨lo,hi,rfl⟩:=qkl h4
 obtain⟨i,rfl,ri⟩:=kd_i h5
 clear h1 h2 h3 h4 h5
 have ca:=@zzk gl n _ _ (by omega)
 obtain⟨bf,hf,cf⟩:=@z10 gl n (by omega) x rx
 obtain⟨bs,hs,cs⟩:=@z8i gl n (by omega) y ry
 unfold ML at hk
 have sy:=zi4 ry
 rw[<-zk9]at cs ⊢
 cases bf
 case false =>
  rw[lrAV]at cf ⊢
  generalize x.r.map toRv=l at *
  generalize hds x.h=U at *
  generalize toRv y=y' at *
  rw[zad (fd:=fd3) rfl]
  simp(maxSteps:=1000000) (disch:=apply zq;omega) only[go_sem,simprocAttr,↓Nat.reduceEqDiff,xx,fd3,m3,↓out16_eq,ca,cf,cs,sy,H.oo]
 cases bs
 case false =>
  rw[lrAV]at cf ⊢
  generalize x.r.map toRv=l at *
  generalize hds x.h=U at *
  generalize toRv y=y' at *
  rw[zad (fd:=fd3) rfl]
  simp(maxSteps:=1000000) (disch:=apply zq;omega) only[go_sem,simprocAttr,↓Nat.reduceEqDiff,xx,fd3,m3,↓out16_eq,ca,cf,cs,sy,H.oo]
 by_cases hk':k.k.length<=100
 rotate_left
 . rw[lrAV]at cf ⊢
   generalize x.r.map toRv=l at *
   generalize hds x.h=U at *
   generalize toRv y=y' at *
   rw[zad (fd:=fd3) rfl]
   simp(maxSteps:=1000000) (disch:=apply zq;omega) only[go_sem,simprocAttr,↓Nat.reduceEqDiff,xx,fd3,m3,↓out16_eq,ca,cf,cs,sy,H.oo]
 have fx:=hf rfl
 have b1:=fx.rl
 have b2:=fx.hl
 have b3:=fx.tl
 have rz:=rx.z
 unfold R64 at rz
 have sz:=hs rfl
 have hlm:(x.r.map toRv).length=x.r.length:=wF _
 obtain⟨na,ne,cn1,cn2,cn3⟩:=@qaq gl n (by omega) i
 obtain⟨v,cv,hv⟩:=@zl3 gl n _ _ _ (by omega) x rx fx
 obtain⟨v',cv',hv'⟩:=@zz1 gl n x.s x.z false false false sRe sB sHd (x.r.map toRv) x.t x.h _ _ (by omega) (.inr rfl) (by omega) (rx.ok fx) (by omega) (by omega) rx.t (.inr rfl) (.inr rfl) (by omega) rx.h
 obtain rfl:v'=v:=by
  have e:v'=true↔v=true:=hv'.trans hv.symm
  cases v<;>cases v'<;>simp_all
 have nn:(ne != ne)=false:=bne_self_eq_false _
 cases v'
 case false =>
  rw[lrAV]at cf cv ⊢
  generalize x.r.map toRv=l at *
  generalize hds x.h=U at *
  generalize toRv y=y' at *
  rw[zad (fd:=fd3) rfl]
  simp(maxSteps:=1000000) (disch:=apply zq;omega) only[go_sem,simprocAttr,↓Nat.reduceEqDiff,xx,fd3,m3,↓out16_eq,ca,cf,cs,cn1,cn2,cn3,cv,cv',nn,sy,H.oo]
 have vx:=hv.1 rfl
 obtain⟨_,_,e,⟨s1,f1,t1,l1,z1,f2,t2,l2,f3,t3,l3,rfl⟩,⟨s4,f4,t4,l4,z4,f5,t5,l5,f6,t6,l6,rfl⟩,d1,d2,d3,d4⟩:=qcz (gl:=gl) (n:=n) (by omega) rx fx vx ry sz
 obtain⟨_,_,g,e',⟨s1',f1',t1',l1',z1',f2',t2',l2',f3',t3',l3',rfl⟩,⟨s4',f4',t4',l4',z4',f5',t5',l5',f6',t6',l6',rfl⟩,d5,d6,d7,d8,d9⟩:=z3r (gl:=gl) (n:=n) (by omega) rx fx vx hk' (lo:=lo) (hi:=hi)
 have eh:=eqHd d7 d7
 rw[decide_eq_true rfl]at eh
 have u1:=b16 d7.r
 have u2:=b16 d7.s
 have w1:=H.bytes_all g.root
 have w2:=H.bytes_all g.sgn
 have ee:(e != e)=false:=bne_self_eq_false _
 have ee':(e' != e')=false:=bne_self_eq_false _
 rw[<-zk9]at d1 d2
 rw[lrAV]at cf cv d1 d2 d5 d6 ⊢
 generalize x.r.map toRv=l at *
 generalize hds x.h=U at *
 generalize toRv y=y' at *
 rw[zad (fd:=fd3) rfl]
 simp(maxSteps:=1000000) (disch:=apply zq;omega) only[go_sem,simprocAttr,↓Nat.reduceEqDiff,xx,fd3,m3,↓out16_eq,ca,cf,cs,cn1,cn2,cn3,cv,cv',nn,sy,d1,d2,d3,d4,d5,d6,d8,d9,eh,u1,u2,w1,w2,ee,ee',H.oo]
end Go.Proofs.S44.L
namespace Go.Proofs.YtcddalfeicoedaaGreatDoor
open Go Go.Ev Go.Proofs Go.ChangeShapes Go.WideShapes Go.ChangeAt Go.RowKit
theorem own :ownKnob Tryz.prog.godebug=none:=by kernel_rfl
theorem gBit :Tryz.prog.globalNamed "math/bits.deBruijn64tab" =some 1:=by kernel_rfl
theorem gCon :Tryz.prog.globalNamed "weirgate/hash.constants" =some 2:=by kernel_rfl
theorem gRef :Tryz.prog.globalNamed "weirgate/weirgateref02.constants" =some 3:=by kernel_rfl
theorem qle :(Tryz.prog.globals[1]?).map (·.type)=some 189:=by kernel_rfl
theorem qld :(Tryz.prog.globals[2]?).map (·.type)=some 226:=by kernel_rfl
theorem qlc :(Tryz.prog.globals[3]?).map (·.type)=some 226:=by kernel_rfl
theorem kBit :kdOf Tryz.prog 8 189=some (.ar 64 (.int .u8)):=by kernel_rfl
theorem kCon :kdOf Tryz.prog 8 226=some (.ar 64 (.int .u32)):=by kernel_rfl
theorem ql2 :AV.agg (zac S44.M.dbl)=avD (H:=Unit) (.ar 64 (.int .u8)) Rows.laid_math_bits_deBruijn64tab:=by kernel_rfl
theorem ql1 :AV.agg S44.kA=avD (H:=Unit) (.ar 64 (.int .u32)) Rows.laid_weirgate_hash_constants:=by kernel_rfl
theorem ql0 :AV.agg S44.kA=avD (H:=Unit) (.ar 64 (.int .u32)) Rows.laid_weirgate_weirgateref02_constants:=by kernel_rfl
theorem qe5 :laidOutB Tryz.prog=true:=by kernel_rfl
theorem z5o {P:Program}{t t':Nat->Option (Sh×AV)}{ri:Nat->Option RInfo}{f:Nat}{fd:Ev.Fd}(h:FnOk P ⟨t,ri⟩ f fd):FnOk P ⟨t',ri⟩ f fd:=by
 cases h with
 | code h hlt ok=>exact .code h hlt ⟨ok.ok⟩
 | given g h hlt ok=>exact .given g h hlt ok
 | round rid ps sl ma mb hf h ok=>exact .round rid ps sl ma mb hf h ⟨ok.ok⟩
 | dfr D h hlt ok =>
   obtain⟨fn,codes,id,ops,cB,an,im,o,c,h1,h2,h3,h4,h5,h6,h7,h8,h9,h10,h11,h12,h13,h14,h15,h16,h17,fc⟩:=ok.ok
   exact .dfr D h hlt ⟨fn,codes,id,ops,cB,an,im,o,c,h1,h2,h3,h4,h5,h6,h7,h8,h9,h10,h11,h12,h13,h14,h15,h16,h17,⟨fc.ok⟩⟩
noncomputable def gl3:Gl:=⟨fun g=>match g with|1=>some (.ar 64 .sc,.agg (zac S44.M.dbl))|2=>some (.ar 64 .sc,.agg S44.kA)|3=>some (.ar 64 .sc,.agg S44.kA)|_=>none,S44.ri⟩
theorem z81 :∀f fd,S44.tab f=some fd->FnOk Tryz.prog gl3 f fd:=fun f fd h=>z5o (S44.tab_ok f fd h)
theorem qfu :Nonempty (S44.H.GlK gl3):=⟨⟨rfl⟩⟩
theorem qft :Nonempty (S44.H.GlR gl3):=⟨⟨rfl⟩⟩
theorem qfv :Nonempty (S44.M.GlB gl3):=⟨⟨rfl⟩⟩
abbrev qe6 :List (String×DataW Unit):=[("math/bits.deBruijn32tab",Rows.laid_math_bits_deBruijn32tab),("math/bits.deBruijn64tab",Rows.laid_math_bits_deBruijn64tab),("weirgate/weirgateref02.constants",Rows.laid_weirgate_weirgateref02_constants),("weirgate/hash.constants",Rows.laid_weirgate_hash_constants)]
theorem qlb {W:World}(h:laidMetH Tryz.prog qe6 W):TabOk W.heap gl3:=by
 have h:laidMet Tryz.prog qe6 W:=h
 refine z1v h fun g sh a hg=> ?_
 match g,hg with
 | 0,hg=>cases hg
 | 1,hg =>
   obtain⟨rfl,rfl⟩:=Prod.mk.inj (Option.some.inj hg)
   exact⟨_,wA _ wD,8,189,_,gBit,qle,kBit,rfl,ql2⟩
 | 2,hg =>
   obtain⟨rfl,rfl⟩:=Prod.mk.inj (Option.some.inj hg)
   exact⟨_,wA _ (wA _ (wA _ wD)),8,226,_,gCon,qld,kCon,rfl,ql1⟩
 | 3,hg =>
   obtain⟨rfl,rfl⟩:=Prod.mk.inj (Option.some.inj hg)
   exact⟨_,wA _ (wA _ wD),8,226,_,gRef,qlc,kCon,rfl,ql0⟩
 | _+4,hg=>cases hg
def zvy :Array Value:=(S44.kList.map fun x=>Value.int .u32 (x.toNat:Int)).toArray
def zyl :Array Value:=([0,1,28,2,29,14,24,3,30,22,20,15,25,17,4,8,31,27,13,23,21,19,16,7,26,12,18,6,11,5,10,9]:List Int).map (fun x=>Value.int .u8 x) |>.toArray
def zyk :Array Value:=(S44.M.dbl.map fun x=>Value.int .u8 (x.toNat:Int)).toArray
def put (vs:Array Value):Obj->Obj
 | .cells _ t frozen=>.cells vs t frozen
 | o=>o
noncomputable def zmb (os:Os):World :=
 {World.holding Tryz.prog os ⟨#[],#[],[]⟩with heap:=((((World.holding Tryz.prog os ⟨#[],#[],[]⟩).heap.modify 0 (put zyl)).modify 1 (put zyk)).modify 2 (put zvy)).modify 3 (put zvy)}
end Go.Proofs.YtcddalfeicoedaaGreatDoor
