/-
  Chapter 17: a name was asked for (Touch), in the program and as specified. No condition.
-/
import Derived.Test.YthipjfnealbheaaGreatDoorW97G25x4
import Derived.Test.YthipjfnealbheaaGreatDoorW97G4x4
import Derived.Test.YthipjfnealbheaaGreatDoorCards
import Derived.Test.YthipjfnealbheaaGreatDoorTie
import Derived.ProofKit
import Derived.OpenShut
import Derived.Deep.DeepHandedRow
import Derived.Lib.LaidTab
import Derived.MakeChecks
set_option linter.all false
open List renaming getD_eq_getElem?_getD->wB,mem_cons_self->wC
open Nat renaming exists_eq_add_of_le'->wD
namespace Go.Proofs.S97
open Go Go.Ev Go.Proofs Go.Proofs.S97.Q
variable {gl :Gl} {n:Nat}
def tch (S:Sf)(x:List UInt8)(H:List Ob):Sf:=⟨S.c,S.A,H,S.w,S.s,(K.addR S.w.toNat S.s S.a S.L x).1,(K.addR S.w.toNat S.s S.a S.L x).2⟩
def mxl (a b:Int):Int:=if b>a then b else a
def setH (l:List Ob)(j:Nat)(a:Int):List Ob:=l.set j ⟨(oat l j).nm,(oat l j).tn,(oat l j).sz,mxl (oat l j).la a⟩
theorem zc8 (l:List Ob)(j:Nat)(a:Int):(setH l j a).length=l.length:=by simp[setH]
theorem zzw (l:List Ob)(j:Nat)(a:Int):(hs l).set j (.agg [.str (oat l j).nm,i64 (oat l j).tn,i64 (oat l j).sz,i64 (mxl (oat l j).la a)])=hs (setH l j a):=by simp[setH,hs,List.map_set]
theorem zi0 {l:List Ob}{j:Nat}(hj:j<l.length)(a:Int)(i:Nat):oat (setH l j a) i=if i=j then⟨(oat l j).nm,(oat l j).tn,(oat l j).sz,mxl (oat l j).la a⟩else oat l i:=by
 unfold setH
 conv=>lhs;unfold oat
 rw[wB,List.getElem?_set]
 by_cases h:i=j
 . subst h;rw[if_pos rfl,if_pos rfl,if_pos hj];rfl
 . rw[if_neg (fun h'=>h h'.symm),if_neg h,<-wB];rfl
theorem z06 (a b:Int):zi7 z08 (i64 a) [i64 b]=some (i64 (mxl a b)):=by simp[zi7,z08,mxl]
theorem zzi {S:Sf}(hv:VSf S){x:List UInt8}:∃w:Nat,S.w=w/\S.w.toNat=w/\K.VS w S.s S.a S.L:=by
 have hw:1<=S.w:=K.isP_pos hv.vk.vp
 have e:((S.w.toNat:Nat):Int)=S.w:=by omega
 refine⟨S.w.toNat,e.symm,rfl,?_⟩
 rw[e];exact hv.vk
theorem skA [Nonempty (H.GlK gl)](h:12<=n){S:Sf}(hv:VSf S){x:List UInt8}(hx:x.length<=5000) :
  call gl tab n 39 [skV S q0,.str x] []=some (.agg [i64 S.w,i64 S.s,i64 (K.addR S.w.toNat S.s S.a S.L x).1,.lst false .sc (K.ns (K.addR S.w.toNat S.s S.a S.L x).2)],[],[]):=by
 obtain⟨w,e1,e2,e3⟩:=zzi hv (x:=x)
 have c:=@K.add_at gl n _ h x hx w S.s S.a false S.L e3.sk
 rw[e2,e1]
 unfold skV
 rw[e1]
 exact c
theorem skR [Nonempty (H.GlR gl)](h:12<=n){S:Sf}(hv:VSf S){x:List UInt8}(hx:x.length<=5000) :
  call gl tab n 44 [skV S q0,.str x] []=some (.agg [i64 S.w,i64 S.s,i64 (K.addR S.w.toNat S.s S.a S.L x).1,.lst false .sc (K.ns (K.addR S.w.toNat S.s S.a S.L x).2)],[],[]):=by
 obtain⟨w,e1,e2,e3⟩:=zzi hv (x:=x)
 have c:=@K.radd_at gl n _ h x hx w S.s S.a false S.L e3.sk
 rw[e2,e1]
 unfold skV
 rw[e1]
 exact c
theorem zr6 (h:1<=n){f:Bool}{l:List A3}(hl:l.length<=8192):call gl tab n 40 [.lst f sA (ac l)] []=some (.sl 20000 [] 0 l.length,[],[.grow sA (ac l)]):=by
 obtain⟨d,rfl⟩:=wD h
 rw[zei (fd:=fd40) rfl rfl]
 have h1:l.length<=LIM:=by unfold LIM;omega
 simp[zh1,zad,h1,Sh.beq,Sh.beqs]
section
variable {S :Sf} {x:List UInt8} {a:Int} (hv:VSf S) (hx:x.length<=5000)
include hv hx
set_option maxHeartbeats 1000000 in
theorem z4q [Nonempty (H.GlK gl)](hn:16<=n)(hno:¬hasN S x):call gl tab n 13 [sfV S q0,.str x,i64 a] []=some (sfV (tch S x S.H) q0,[],[]):=by
 obtain⟨d,rfl⟩:=wD hn
 have hH:=hv.hn
 have hAn:=hv.va.n
 have c1:=@skA gl (d+15) _ (by omega) S hv x hx
 have c2:=@zg9 gl (d+15) (by omega) false S.H (by omega)
 have c3:=@zr6 gl (d+15) (by omega) false S.A (by omega)
 obtain⟨k,hp,c4⟩:=@zfg gl (d+15) (by omega) false sO S.H (.inr rfl) (by omega) (zcl hv.ho) x
 have e1:isAt S.H x k=false:=by
  cases hb:isAt S.H x k with
  | false=>rfl
  | true=>exact absurd ((zhr (zcl hv.ho) hp).1 hb) hno
 rw[e1]at c4
 have h1:=zdz S.H
 have h2:=zk5 S.A
 unfold tch
 generalize K.addR S.w.toNat S.s S.a S.L x=r at *
 rw[zaf (fd:=fd13) rfl]
 simp(disch:=apply zq;omega) only[go_sem,simprocAttr,↓Nat.reduceEqDiff,xx,fd13,m13,c1,c2,c3,c4,zaa,zad,h1,h2]
set_option maxHeartbeats 1000000 in
theorem zzh [Nonempty (H.GlK gl)](hn:16<=n){j:Nat}(hj:j<S.H.length)(hjx:(oat S.H j).nm=x):call gl tab n 13 [sfV S q0,.str x,i64 a] []=some (sfV (tch S x (setH S.H j a)) q0,[],[]):=by
 obtain⟨d,rfl⟩:=wD hn
 have hH:=hv.hn
 have hAn:=hv.va.n
 have c1:=@skA gl (d+15) _ (by omega) S hv x hx
 have c2:=@zg9 gl (d+15) (by omega) false S.H (by omega)
 have c3:=@zr6 gl (d+15) (by omega) false S.A (by omega)
 obtain⟨k,hp,c4⟩:=@zfg gl (d+15) (by omega) false sO S.H (.inr rfl) (by omega) (zcl hv.ho) x
 rw[<-hjx]at hp
 have ek:=qf7 (zcl hv.ho) hj hp
 subst ek
 have e1:isAt S.H x k=true:=(zhr (zcl hv.ho) (by rw[<-hjx];exact hp)).2 ⟨k,hj,hjx⟩
 rw[e1]at c4
 have h0:=zdz S.H
 have h1:=zdz (setH S.H k a)
 rw[zc8]at h1
 have h2:=zk5 S.A
 have hxj:=zdu hj
 have h3:=zzw S.H k a
 have h4:=z06 (oat S.H k).la a
 have h5:=zc8 S.H k a
 unfold tch
 generalize K.addR S.w.toNat S.s S.a S.L x=r at *
 rw[zaf (fd:=fd13) rfl]
 simp(disch:=apply zq;omega) only[go_sem,simprocAttr,↓Nat.reduceEqDiff,xx,fd13,m13,c1,c2,c3,c4,zaa,zad,h0,h1,h2,hxj,h3,h4,h5]
set_option maxHeartbeats 1000000 in
theorem zz7 [Nonempty (H.GlR gl)](hn:16<=n)(hno:¬hasN S x):call gl tab n 16 [sfV S q0,.str x,i64 a] []=some (sfV (tch S x S.H) q0,[],[]):=by
 obtain⟨d,rfl⟩:=wD hn
 have hH:=hv.hn
 have hAn:=hv.va.n
 have c1:=@skR gl (d+15) _ (by omega) S hv x hx
 have c4:=@zu0 gl (d+15) (by omega) false sO S.H (.inr rfl) (by omega) x hno
 have h1:=zdz S.H
 have hlim:S.H.length<=LIM:=by unfold LIM;omega
 unfold tch
 generalize K.addR S.w.toNat S.s S.a S.L x=r at *
 rw[zaf (fd:=fd16) rfl]
 simp(disch:=apply zq;omega) only[go_sem,simprocAttr,↓Nat.reduceEqDiff,xx,fd16,m16,c1,c4,zaa,h1,hlim]
set_option maxHeartbeats 1000000 in
theorem zw1 [Nonempty (H.GlR gl)](hn:16<=n){j:Nat}(hj:j<S.H.length)(hjx:(oat S.H j).nm=x):call gl tab n 16 [sfV S q0,.str x,i64 a] []=some (sfV (tch S x (setH S.H j a)) q0,[],[]):=by
 obtain⟨d,rfl⟩:=wD hn
 have hH:=hv.hn
 have hAn:=hv.va.n
 have c1:=@skR gl (d+15) _ (by omega) S hv x hx
 have c4:=@zqq gl (d+15) (by omega) false sO S.H (.inr rfl) (by omega) (zcl hv.ho) j hj
 rw[hjx]at c4
 have h0:=zdz S.H
 have h1:=zdz (setH S.H j a)
 rw[zc8]at h1
 have hxj:=zdu hj
 have h3:=zzw S.H j a
 have h4:=z06 (oat S.H j).la a
 have h5:=zc8 S.H j a
 have hlim:S.H.length<=LIM:=by unfold LIM;omega
 unfold tch
 generalize K.addR S.w.toNat S.s S.a S.L x=r at *
 rw[zaf (fd:=fd16) rfl]
 simp(disch:=apply zq;omega) only[go_sem,simprocAttr,↓Nat.reduceEqDiff,xx,fd16,m16,c1,c4,zaa,h0,h1,hxj,h3,h4,h5,hlim]
end
theorem zqh {S:Sf}{x:List UInt8}(hv:VSf S):VSf (tch S x S.H):=by
 obtain⟨w,e1,e2,e3⟩:=zzi hv (x:=x)
 refine⟨hv.c,hv.va,?_,hv.hn,fun i hi=>⟨(hv.ho i hi).r,(hv.ho i hi).o,(hv.ho i hi).t⟩,hv.hu,hv.ht⟩
 show K.VS S.w S.s (K.addR S.w.toNat S.s S.a S.L x).1 (K.addR S.w.toNat S.s S.a S.L x).2
 rw[e2,e1]
 exact K.add_vs e3 x
theorem zzc {l:List Ob}{j:Nat}(hj:j<l.length)(a t:Int):∀i,usd (setH l j a) t i=usd l t i
 | 0=>rfl
 | i+1=>by
   rw[usd,usd,zzc hj a t i,zi0 hj]
   split
   . rename_i e;subst e;rfl
   . rfl
theorem zzv {S:Sf}(hv:VSf S){j:Nat}(hj:j<S.H.length){a:Int}(ha:0<=a/\a<=1099511627776):VSf ⟨S.c,S.A,setH S.H j a,S.w,S.s,S.a,S.L⟩:=by
 have nm:∀i,(oat (setH S.H j a) i).nm=(oat S.H i).nm:=fun i=>by rw[zi0 hj];by_cases e:i=j<;>simp[e]
 have tn:∀i,(oat (setH S.H j a) i).tn=(oat S.H i).tn:=fun i=>by rw[zi0 hj];by_cases e:i=j<;>simp[e]
 have sz:∀i,(oat (setH S.H j a) i).sz=(oat S.H i).sz:=fun i=>by rw[zi0 hj];by_cases e:i=j<;>simp[e]
 refine⟨hv.c,hv.va,hv.vk,by show(setH S.H j a).length<=_;rw[zc8];exact hv.hn,fun i hi=> ?_,fun k hk=> ?_,hv.ht⟩
 . have hi':i<S.H.length:=by have:i<(setH S.H j a).length:=hi;rwa [zc8]at this
   have h:=hv.ho i hi'
   refine⟨⟨?_,?_,?_⟩,fun h0=> ?_,?_⟩
   . show 1<=(oat (setH S.H j a) i).nm.length/\(oat (setH S.H j a) i).nm.length<=4096
     rw[nm];exact h.r.nl
   . show 1<=(oat (setH S.H j a) i).sz/\(oat (setH S.H j a) i).sz<=1099511627776
     rw[sz];exact h.r.sz
   . show 0<=(oat (setH S.H j a) i).la/\(oat (setH S.H j a) i).la<=1099511627776
     rw[zi0 hj]
     have hl:=h.r.la
     split
     . rename_i e;subst e
       show 0<=mxl (oat S.H i).la a/\mxl (oat S.H i).la a<=_
       unfold mxl;split<;>omega
     . exact hl
   . show Bl.lt (oat (setH S.H j a) (i-1)).nm (oat (setH S.H j a) i).nm=true
     rw[nm,nm];exact h.o h0
   . show ∃k,k<S.A.length/\(aat S.A k).t=(oat (setH S.H j a) i).tn
     rw[tn];exact h.t
 . show(aat S.A k).u=usd (setH S.H j a) (aat S.A k).t (setH S.H j a).length
   rw[zc8,zzc hj];exact hv.hu k hk
end Go.Proofs.S97
namespace Go.Proofs.S97
open Go Go.Ev Go.Proofs Go.Proofs.S97.Q
variable {gl :Gl} {n:Nat}
theorem zvh (hn:20<=n)(c7:call gl tab n 6 [] []=some (.bool true,[],[])){S T U:Sf}{x:List UInt8}{a e:Int}(ha:0<=a/\a<=1099511627776)(hx:x.length<=200)(hT:VSf T)(hU:VSf U)(hTl:T.L.length<=300)(hUl:U.L.length<=300)
  (cv:call gl tab n 5 [sfV S q0] []=some (.bool true,[],[]))
  (c1:call gl tab n 13 [sfV S q0,.str x,i64 a] []=some (sfV T q0,[],[])) (c2:call gl tab n 16 [sfV S q0,.str x,i64 a] []=some (sfV T q0,[],[]))
  (c3:call gl tab n 14 [sfV S q0,.str x] []=some (.tup [sfV U q0,i64 e],[],[])) (c4:call gl tab n 15 [sfV S q0,.str x] []=some (.agg [sfV U q0,i64 e],[],[])) :
  call gl tab (n+1) 4 [sfV S q0,.str x,i64 a] []=some (.bool true,[],[]):=by
 have d1:=@zuz gl n (by omega) T hT hTl
 have d2:=@zuz gl n (by omega) U hU hUl
 have d3:=@zqe gl n (by omega) T hT hTl
 have d4:=@zqe gl n (by omega) U hU hUl
 have ee:(e != e)=false:=by simp
 rw[zaf (fd:=fd4) rfl]
 simp(disch:=apply zq;omega) only[go_sem,simprocAttr,↓Nat.reduceEqDiff,xx,fd4,m4,cv,c7,c1,c2,c3,c4,d1,d2,d3,d4,ee]
set_option maxHeartbeats 2000000 in
theorem qkv [Nonempty (H.GlK gl)][Nonempty (H.GlR gl)](hn:20<=n)(c7:call gl tab n 6 [] []=some (.bool true,[],[]))(ar:List AV)(h:HasKds [kF,.str,.int .i64] ar):call gl tab (n+1) 4 ar []=some (.bool true,[],[]):=by
 simp only[HasKds]at h
 obtain⟨_,_,rfl,h1,_,_,rfl,⟨x,rfl,hxl⟩,_,_,rfl,⟨a,rfl,hat⟩,rfl⟩:=h
 obtain⟨S,rfl,hS⟩:=kdF h1
 obtain⟨b,hb,cv⟩:=@qjc gl n (by omega) S (qq false false sO) ⟨.inr rfl,.inr rfl⟩ hS
 cases b with
 | false=>rw[zaf (fd:=fd4) rfl];simp(disch:=apply zq;omega) only[go_sem,simprocAttr,↓Nat.reduceEqDiff,xx,fd4,m4,cv,c7]
 | true =>
 obtain⟨⟨f1,f2,f3⟩,hv⟩:=hb.1 rfl
 by_cases hnl:x.length<=200
 case neg=>rw[zaf (fd:=fd4) rfl];simp(disch:=apply zq;omega) only[go_sem,simprocAttr,↓Nat.reduceEqDiff,xx,fd4,m4,cv,c7]
 by_cases ha0:0<=a
 case neg=>rw[zaf (fd:=fd4) rfl];simp(disch:=apply zq;omega) only[go_sem,simprocAttr,↓Nat.reduceEqDiff,xx,fd4,m4,cv,c7]
 by_cases ha1:a<=1099511627776
 case neg=>rw[zaf (fd:=fd4) rfl];simp(disch:=apply zq;omega) only[go_sem,simprocAttr,↓Nat.reduceEqDiff,xx,fd4,m4,cv,c7]
 have hL:(K.addR S.w.toNat S.s S.a S.L x).2.length<=300:=by rw[K.addR_len];exact f3
 by_cases hN:hasN S x
 . obtain⟨j,hj,hjx⟩:=hN
   obtain⟨k0,hk0,_⟩:=(hv.ho j hj).t
   obtain⟨g1,g2⟩:=zh7 hv.va (hv.ho j hj).t
   have hvd:=zr2 hv hj g1 g2
   have c3:=@z0j gl n (by omega) S false false sO hv hS.t (.inr rfl) j hj
   have c4:=@zw2 gl n (by omega) S hv j hj
   rw[hjx]at c3 c4
   have hvt:=zqh (x:=x) (zzv hv hj ⟨ha0,ha1⟩)
   exact zvh hn c7 ⟨ha0,ha1⟩ hnl hvt hvd hL f3 cv (zzh hv (by omega) (by omega) hj hjx) (zw1 hv (by omega) (by omega) hj hjx) c3 c4
 . have c3:=@zqt gl n (by omega) S x false false sO hv (.inr rfl) hN
   have c4:=@zw3 gl n (by omega) S x hv hN
   exact zvh hn c7 ⟨ha0,ha1⟩ hnl (zqh hv) hv hL f3 cv (z4q hv (by omega) (by omega) hN) (zz7 hv (by omega) (by omega) hN) c3 c4
theorem law4 [Nonempty (H.GlK gl)][Nonempty (H.GlR gl)](hn:20<=n)(ar:List AV)(h:HasKds [kF,.str,.int .i64] ar):call gl tab (n+1) 4 ar []=some (.bool true,[],[]):=qkv hn (zz6 (by omega)) ar h
end Go.Proofs.S97
namespace Go.Proofs.YthipjfnealbheaaGreatDoor
open Go Go.Ev Go.Proofs Go.ChangeShapes Go.WideShapes Go.ChangeAt Go.RowKit
theorem own :ownKnob Tryz.prog.godebug=none:=by kernel_rfl
theorem gCon :Tryz.prog.globalNamed "weirgate/hash.constants" =some 1:=by kernel_rfl
theorem gRef :Tryz.prog.globalNamed "weirgate/weirgateref02.constants" =some 0:=by kernel_rfl
theorem qk5 :(Tryz.prog.globals[1]?).map (·.type)=some 172:=by kernel_rfl
theorem qk4 :(Tryz.prog.globals[0]?).map (·.type)=some 172:=by kernel_rfl
theorem kCon :kdOf Tryz.prog 8 172=some (.ar 64 (.int .u32)):=by kernel_rfl
theorem qlj :AV.agg S97.kA=avD (H:=Unit) (.ar 64 (.int .u32)) Rows.laid_weirgate_hash_constants:=by kernel_rfl
theorem qli :AV.agg S97.kA=avD (H:=Unit) (.ar 64 (.int .u32)) Rows.laid_weirgate_weirgateref02_constants:=by kernel_rfl
theorem qg1 :laidOutB Tryz.prog=true:=by kernel_rfl
abbrev qg2 :List (String×DataW Unit):=[("weirgate/weirgateref02.constants",Rows.laid_weirgate_weirgateref02_constants),("weirgate/hash.constants",Rows.laid_weirgate_hash_constants)]
theorem qk3 {W:World}(h:laidMetH Tryz.prog qg2 W):TabOk W.heap S97.glS:=by
 have h:laidMet Tryz.prog qg2 W:=h
 refine z2y h fun g sh a hg=> ?_
 match g,hg with
 | 1,hg =>
   obtain⟨rfl,rfl⟩:=Prod.mk.inj (Option.some.inj hg)
   exact⟨_,List.mem_cons_of_mem _ wC,8,172,_,gCon,qk5,kCon,rfl,qlj⟩
 | 0,hg =>
   obtain⟨rfl,rfl⟩:=Prod.mk.inj (Option.some.inj hg)
   exact⟨_,wC,8,172,_,gRef,qk4,kCon,rfl,qli⟩
 | _+2,hg=>cases hg
theorem qhu :Nonempty (S97.H.GlK S97.glS):=⟨⟨rfl⟩⟩
theorem qht :Nonempty (S97.H.GlR S97.glS):=⟨⟨rfl⟩⟩
def zv8 :Array Value:=(S97.kList.map fun x=>Value.int .u32 (x.toNat:Int)).toArray
def put (vs:Array Value):Obj->Obj
 | .cells _ t frozen=>.cells vs t frozen
 | o=>o
noncomputable def zl7 (os:Os):World :=
 {World.holding Tryz.prog os ⟨#[],#[],[]⟩with heap:=((World.holding Tryz.prog os ⟨#[],#[],[]⟩).heap.modify 0 (put zv8)).modify 1 (put zv8)}
end Go.Proofs.YthipjfnealbheaaGreatDoor
