/-
  Chapter 17: the specification's Admit and Remove; Victims. No condition.
-/
import Derived.Test.YthipjfnealbheaaGreatDoorW97G25x3
import Derived.Test.YthipjfnealbheaaGreatDoorW97G5x3
import Derived.Test.YthipjfnealbheaaGreatDoorCards
import Derived.Test.YthipjfnealbheaaGreatDoorTie
import Derived.ProofKit
import Derived.OpenShut
import Derived.Deep.DeepHandedRow
import Derived.Lib.LaidTab
import Derived.MakeChecks
set_option linter.all false
open Nat renaming exists_eq_add_of_le'->wB
namespace Go.Proofs.S97
open Go Go.Ev Go.Proofs Go.Proofs.S97.Q
variable {gl :Gl} {n:Nat}
theorem zrg (hn:13<=n){S:Sf}{h:Ob}{e:Int}(he:(e != 0)=true)(c:call gl tab (n-1) 28 [sfV S q0,oV h] []=some (.agg [.lst true .sc [],Zs0,i64 e],[],[])) :
  call gl tab n 9 [sfV S q0,oV h] []=some (.agg [sfV S q0,.lst true .sc [],i64 e],[],[]):=by
 obtain⟨d,rfl⟩:=wB hn
 rw[show d+13-1=d+12 from rfl]at c
 rw[zaf (fd:=fd9) rfl]
 simp(disch:=apply zq;omega) only[go_sem,simprocAttr,↓Nat.reduceEqDiff,xx,fd9,m9,c,he]
theorem z7p (v:Vt)(hb:v.b=false->v.o=[]):∃f m,zuc v= .lst f m (hs v.o)/\Mk v.o m sO:=by
 cases h:v.b with
 | true=>exact⟨false,sO,by rw[zuc,if_pos h],.inr rfl⟩
 | false=>exact⟨true,.sc,by rw[zuc,if_neg (by rw[h];decide),hb h];rfl,.inl (hb h)⟩
set_option maxHeartbeats 2000000 in
theorem z1d (hn:13<=n){S:Sf}{h:Ob}{v:Vt}(hr:ROk h)(hv:VSf v.S)(hnn:¬hasN v.S h.nm){k j:Nat}(hp:Pn v.S.H h.nm k)(hj:j<v.S.A.length)(hjt:(aat v.S.A j).t=h.tn)(hb:v.b=false->v.o=[])(hol:v.o.length<=8192)
  (c:call gl tab (n-1) 28 [sfV S q0,oV h] []=some (.agg [zuc v,sfV v.S q0,i64 0],[],[])) :
  call gl tab n 9 [sfV S q0,oV h] []=some (.agg [sfV (adm v.S h k j) q0,.lst false .sc (nms v.o),i64 0],[],[]):=by
 obtain⟨d,rfl⟩:=wB hn
 rw[show d+13-1=d+12 from rfl]at c
 obtain⟨f,m,eg,hm⟩:=z7p v hb
 rw[eg]at c
 have hH:=hv.hn
 have hA:=hv.va.n
 have c1:=@z02 gl (d+12) (by omega) f m v.o hm hol
 have c2:=@zpi gl (d+12) (by omega) false sA v.S.A (.inr rfl) hv.va j hj h.tn hjt
 have hst:=fun i hi=>@qga gl (d+12) v.S h (.lst f m (hs v.o)) hH k hp hnn i hi
 have hxj:=zde hj
 have hu:=(hv.va.ok j hj).u
 have hsz:=hr.sz
 have e1:=zs9 v.S.A j h.sz
 have e2:=zlj (updA v.S.A j h.sz)
 rw[zav]at e2
 have e3:=zlj v.S.A
 have hlimA:v.S.A.length<=LIM:=by unfold LIM;omega
 have hend:=qio hp.le (h:=h)
 have hlen:=qab (h:=h) (k:=k) (Nat.le_refl v.S.H.length)
 have hil0:=il_0 v.S.H h k
 have hl1:(il v.S.H h k v.S.H.length).length<=4097:=by rw[hlen];split<;>omega
 have hlim:=zjc (show(il v.S.H h k v.S.H.length).length<=8192 by omega)
 have hap:=zg9 (il v.S.H h k v.S.H.length) h
 have htk:=ze2 (il v.S.H h k v.S.H.length) (oV h)
 have htk0:=zgk (il v.S.H h k v.S.H.length)
 have d0:decide (k<0)=false:=decide_eq_false (by omega)
 unfold adm
 simp only[L9a,m9]at hst
 rw[zaf (fd:=fd9) rfl]
 simp(disch:=apply zq;omega) only[go_sem,simprocAttr,↓Nat.reduceEqDiff,xx,fd9,m9,c]
 rw[zaj (S9a v.S h (.lst f m (hs v.o)) k) v.S.H.length (by unfold LF;omega)]
 . rw[S9a]
   by_cases hk:k<v.S.H.length
   . rw[if_pos hk]at hend
     rw[<-hend,decide_eq_true hk]
     generalize il v.S.H h k v.S.H.length=w at *
     simp(disch:=apply zq;omega) only[go_sem,simprocAttr,↓Nat.reduceEqDiff,xx,zaa,zab,c1,c2,hxj,e1,e2,e3,hlimA,zav,htk0]
   . rw[if_neg hk]at hend
     rw[<-hend,decide_eq_false hk]
     generalize il v.S.H h k v.S.H.length=w at *
     simp(disch:=apply zq;omega) only[go_sem,simprocAttr,↓Nat.reduceEqDiff,xx,zaa,zab,c1,c2,hxj,e1,e2,e3,hlimA,zav,hlim,htk,hap,oV]
     rw[<-hap]
 . simp(disch:=apply zq;omega) only[go_sem,simprocAttr,↓Nat.reduceEqDiff,xx,S9a,hil0,zc6,oV,d0,List.length_nil]
 . exact hst
 . simp(disch:=apply zq;omega) only[go_sem,simprocAttr,↓Nat.reduceEqDiff,xx,S9a,zaa]
theorem zxc (hn:16<=n){S:Sf}{h:Ob}(hv:VSf S){e:Int}(he:vErr S h e) :
  call gl tab n 7 [sfV S q0,oV h] []=some (.tup [.lst false .sc (nms []),i64 e],[],[]):=by
 obtain⟨d,rfl⟩:=wB hn
 have c1:=@zjm gl (d+15) (by omega) S q0 ⟨.inr rfl,.inr rfl⟩ hv.va
 have c2:=@z9g gl (d+15) (by omega) S h false false sO hv (.inr rfl) e he
 have c3:=@zi7 gl (d+15) (by omega) true .sc [] (.inl rfl) (by simp)
 have e4:nms []=[]:=rfl
 rw[zc6,e4]at c3
 rw[e4]
 rw[zaf (fd:=fd7) rfl]
 simp(disch:=apply zq;omega) only[go_sem,simprocAttr,↓Nat.reduceEqDiff,xx,fd7,m7,c1,c2,c3]
theorem zs4 (hn:16<=n){S:Sf}{h:Ob}(hv:VSf S){v:Vt}(hi:IV h v)(hb0:v.b=false->v=v0 S)
  (hc:zq1 (call gl tab (n-1)) S h false false sO=if vEnd h v=0 then(if v.b=true then rOkB false false sO v else rOkA false false sO S)else(if v.b=true then rErB false false sO v (vEnd h v)else rErA false false sO S (vEnd h v))) :
  call gl tab n 7 [sfV S q0,oV h] []=some (.tup [.lst false .sc (nms (if vEnd h v=0 then v.o else [])),i64 (vEnd h v)],[],[]):=by
 obtain⟨d,rfl⟩:=wB hn
 rw[show d+16-1=d+15 from rfl]at hc
 unfold zq1 at hc
 have c1:=@zjm gl (d+15) (by omega) S q0 ⟨.inr rfl,.inr rfl⟩ hv.va
 have c3:=@zi7 gl (d+15) (by omega) true .sc [] (.inl rfl) (by simp)
 have c5:=@zi7 gl (d+15) (by omega) false sO [] (.inr rfl) (by simp)
 have e4:nms []=[]:=rfl
 rw[zc6,e4]at c3 c5
 have hol:=hi.ol
 have c4:=@zi7 gl (d+15) (by omega) false sO v.o (.inr rfl) (by omega)
 have hno:=ze3 v.o
 have hno2:=zj2 v.o
 have htko:=zgk v.o
 have e3:(nms v.o).take v.o.length=nms v.o:=by rw[<-zbj];exact List.take_length
 by_cases he:vEnd h v=0
 . rw[if_pos he]at hc ⊢
   rw[he]
   cases hb:v.b with
   | true =>
     rw[hb,if_pos rfl,rOkB]at hc
     rw[zaf (fd:=fd7) rfl]
     simp(disch:=apply zq;omega) only[go_sem,simprocAttr,↓Nat.reduceEqDiff,xx,fd7,m7,c1,hc,c4,zaa,hno,hno2,htko,e3,zbj]
   | false =>
     rw[hb,if_neg (by decide),rOkA]at hc
     have eo:v.o=[]:=by rw[hb0 hb];rfl
     rw[eo,e4]
     rw[zaf (fd:=fd7) rfl]
     simp(disch:=apply zq;omega) only[go_sem,simprocAttr,↓Nat.reduceEqDiff,xx,fd7,m7,c1,hc,c5]
 . rw[if_neg he]at hc ⊢
   rw[e4]
   generalize vEnd h v=e at *
   rw[zaf (fd:=fd7) rfl]
   cases hb:v.b with
   | true =>
     rw[hb,if_pos rfl,rErB]at hc
     simp(disch:=apply zq;omega) only[go_sem,simprocAttr,↓Nat.reduceEqDiff,xx,fd7,m7,c1,hc,c3]
   | false =>
     rw[hb,if_neg (by decide),rErA]at hc
     simp(disch:=apply zq;omega) only[go_sem,simprocAttr,↓Nat.reduceEqDiff,xx,fd7,m7,c1,hc,c3]
end Go.Proofs.S97
namespace Go.Proofs.S97
open Go Go.Ev Go.Proofs Go.Proofs.S97.Q
variable {gl :Gl} {n:Nat}
theorem kdOb {x:AV}(h:HasKd kO x):∃o:Ob,x=oV o:=by
 obtain⟨k,rfl,hx⟩:=h
 simp only[HasKds]at hx
 obtain⟨_,_,rfl,⟨a,rfl,_⟩,_,_,rfl,⟨b,rfl,_⟩,_,_,rfl,⟨c,rfl,_⟩,_,_,rfl,⟨e,rfl,_⟩,rfl⟩:=hx
 exact⟨⟨a,b,c,e⟩,rfl⟩
theorem zq0 (h:4<=n){S:Sf}(hv:VSf S)(hl:S.L.length<=300):call gl tab n 12 [sfV S q0] []=some (.bool true,[],[]):=by
 have hA:=hv.va.n
 have hH:=hv.hn
 obtain⟨b,hb,c⟩:=@rvalid_at gl n h S q0 ⟨.inr rfl,.inr rfl⟩ (by omega) (by omega) (by omega)
 rw[hb.2 hv]at c
 exact c
theorem zvi (h:2<=n){S:Sf}(hv:VSf S)(hl:S.L.length<=300):call gl tab n 11 [sfV S q0,sfV S q0] []=some (.bool true,[],[]):=by
 have hA:=hv.va.n
 have hH:=hv.hn
 exact @same_at gl n h S q0 q0 ⟨.inr rfl,.inr rfl⟩ ⟨.inr rfl,.inr rfl⟩ (by omega) (by omega) (by omega)
theorem zxb [Nonempty (H.GlK gl)](hn:16<=n){S:Sf}{h:Ob}(hv:VSf S)(ht:Tn S.A)(f:Free S h) :
  call gl tab n 7 [sfV S q0,oV h] []=some (.tup [.lst false .sc (nms (if vEnd h (vE S h)=0 then(vE S h).o else [])),i64 (vEnd h (vE S h))],[],[])/\((vE S h).b=false->(vE S h).o=[])/\SK S (vE S h).S:=by
 have hnm:∀i,i<S.H.length->(oat S.H i).nm.length<=5000:=fun i hi=>by have:=(hv.ho i hi).r.nl;omega
 have hi0:=iv_0 hv ht hnm f.t
 obtain⟨v,hiv,hg,hF,hb0,hvc,hcl⟩:=@zu3 gl (n-1) _ (by omega) S h false false sO hi0 (.inr rfl) f.r (by have:=f.r.nl;omega) f.n f.s f.l
 have e:vE S h=v:=hF.symm
 have sk:∀(k:Nat) (v:Vt),SK S v.S->SK S (runV h k v).S:=fun k=>by
  induction k with
  | zero=>exact fun v hk=>hk
  | succ k ih =>
    intro v hk
    by_cases hg:goV h v=true
    . rw[zjs hg];exact ih _ hk.next
    . rw[runV,if_neg hg];exact hk
 have hs:=sk S.H.length (v0 S) ⟨rfl,rfl,rfl,rfl,rfl⟩
 rw[<-hF]at hs
 rw[e]
 exact⟨zs4 hn hv hiv hb0 hcl,fun hb=>by rw[hb0 hb];rfl,hs⟩
set_option maxHeartbeats 2000000 in
theorem qlz [Nonempty (H.GlK gl)][Nonempty (H.GlR gl)](hn:20<=n)(c7:call gl tab n 6 [] []=some (.bool true,[],[]))(ar:List AV)(h:HasKds [kF,kO] ar):call gl tab (n+1) 3 ar []=some (.bool true,[],[]):=by
 simp only[HasKds]at h
 obtain⟨_,_,rfl,h1,_,_,rfl,h2,rfl⟩:=h
 obtain⟨S,rfl,hS⟩:=kdF h1
 obtain⟨o,rfl⟩:=kdOb h2
 obtain⟨b,hb,cv⟩:=@qkd gl n (by omega) S (qq false false sO) ⟨.inr rfl,.inr rfl⟩ hS
 cases b with
 | false=>rw[zaf (fd:=fd3) rfl];simp(disch:=apply zq;omega) only[go_sem,simprocAttr,↓Nat.reduceEqDiff,xx,fd3,m3,cv,c7]
 | true =>
 obtain⟨⟨f1,f2,f3⟩,hv⟩:=hb.1 rfl
 by_cases hnl:o.nm.length<=200
 case neg=>rw[zaf (fd:=fd3) rfl];simp(disch:=apply zq;omega) only[go_sem,simprocAttr,↓Nat.reduceEqDiff,xx,fd3,m3,cv,c7,oV]
 have err:∀e:Int,(e != 0)=true->call gl tab n 7 [sfV S q0,oV o] []=some (.tup [.lst false .sc (nms []),i64 e],[],[]) ->
   call gl tab n 8 [sfV S q0,oV o] []=some (.tup [sfV S q0,.lst true .sc [],i64 e],[],[]) ->
   call gl tab n 9 [sfV S q0,oV o] []=some (.agg [sfV S q0,.lst true .sc [],i64 e],[],[])->call gl tab (n+1) 3 [sfV S q0,oV o] []=some (.bool true,[],[]):=fun e he c1 c2 c3=>by
  have e4:nms []=[]:=rfl
  have c4:=@zpa gl n (by omega) false true [] (by simp)
  have c5:=@zpa gl n (by omega) true true [] (by simp)
  have c6:=@zvi gl n (by omega) S hv f3
  have c8:=@zq0 gl n (by omega) S hv f3
  have ee:(e != e)=false:=by simp
  rw[e4]at c1 c4 c5
  rw[zaf (fd:=fd3) rfl]
  simp(disch:=apply zq;omega) only[go_sem,simprocAttr,↓Nat.reduceEqDiff,xx,fd3,m3,cv,c7,c1,c2,c3,c4,c5,c6,c8,ee,oV]
 rcases qea S o with ⟨e,he⟩|fr
 . exact err e (zzx he) (zxc (by omega) hv he) (zw5 (by omega) hv (.inr rfl) he) (zrg (by omega) (zzx he) (qb7 (by omega) hv he))
 obtain⟨hi,g,_,ce,co⟩:=@z42 gl n _ (by omega) S o hv hS.t fr
 obtain⟨c1,hbo,hsk⟩:=@zxb gl n _ (by omega) S o hv hS.t fr
 have c3:=@qb6 gl (n-1) _ (by omega) S o hv hS.t fr
 by_cases he:vEnd o (vE S o)=0
 case neg =>
  rw[if_neg he]at c1 c3
  exact err _ (zzy he) c1 (ce he) (zrg (by omega) (zzy he) c3)
 rw[if_pos he]at c1 c3
 rw[he]at c1
 obtain⟨k,hp,c2⟩:=co he
 obtain⟨t1,t2⟩:=qjy fr hi g he hp
 have hnn:¬hasN (vE S o).S o.nm:=fun⟨j,hj,e⟩=>fr.n (by
  obtain⟨i,h3,h4⟩:=zpt (g.hm _ (zib hj))
  exact⟨i,h3,by rw[h4];exact e⟩)
 obtain⟨q1,q2⟩:=zic hi.hv.va hi.ha
 have hol:=hi.ol
 have c4:=z1d (by omega) fr.r hi.hv hnn hp q1 q2 hbo (by omega) c3
 have hL:(adm (vE S o).S o k (idxT (vE S o).S.A o.tn)).L.length<=300:=by show(vE S o).S.L.length<=300;rw[hsk.L];exact f3
 have c5:=@zpa gl n (by omega) false false (vE S o).o (by omega)
 have c6:=@zvi gl n (by omega) _ t1 hL
 have c8:=@zq0 gl n (by omega) _ t1 hL
 generalize adm (vE S o).S o k (idxT (vE S o).S.A o.tn)=T at *
 generalize nms (vE S o).o=G at *
 rw[zaf (fd:=fd3) rfl]
 simp(disch:=apply zq;omega) only[go_sem,simprocAttr,↓Nat.reduceEqDiff,xx,fd3,m3,cv,c7,c1,c2,c4,c5,c6,c8,oV]
theorem law3 [Nonempty (H.GlK gl)][Nonempty (H.GlR gl)](hn:20<=n)(ar:List AV)(h:HasKds [kF,kO] ar):call gl tab (n+1) 3 ar []=some (.bool true,[],[]):=qlz hn (z0t (by omega)) ar h
end Go.Proofs.S97
namespace Go.Proofs.YthipjfnealbheaaGreatDoor
open Go Go.Ev Go.Proofs Go.ChangeShapes Go.WideShapes Go.ChangeAt Go.RowKit
theorem own :ownKnob Tryz.prog.godebug=none:=by kernel_rfl
theorem gCon :Tryz.prog.globalNamed "weirgate/hash.constants" =some 1:=by kernel_rfl
theorem gRef :Tryz.prog.globalNamed "weirgate/weirgateref02.constants" =some 0:=by kernel_rfl
theorem qmb :(Tryz.prog.globals[1]?).map (·.type)=some 172:=by kernel_rfl
theorem qma :(Tryz.prog.globals[0]?).map (·.type)=some 172:=by kernel_rfl
theorem kCon :kdOf Tryz.prog 8 172=some (.ar 64 (.int .u32)):=by kernel_rfl
theorem qmq :AV.agg S97.kA=avD (H:=Unit) (.ar 64 (.int .u32)) Rows.laid_weirgate_hash_constants:=by kernel_rfl
theorem qmp :AV.agg S97.kA=avD (H:=Unit) (.ar 64 (.int .u32)) Rows.laid_weirgate_weirgateref02_constants:=by kernel_rfl
theorem qhw :laidOutB Tryz.prog=true:=by kernel_rfl
abbrev qhx :List (String×DataW Unit):=[("weirgate/weirgateref02.constants",Rows.laid_weirgate_weirgateref02_constants),("weirgate/hash.constants",Rows.laid_weirgate_hash_constants)]
theorem ql9 {W:World}(h:laidMetH Tryz.prog qhx W):TabOk W.heap S97.glS:=by
 have h:laidMet Tryz.prog qhx W:=h
 refine z3g h fun g sh a hg=> ?_
 match g,hg with
 | 1,hg =>
   obtain⟨rfl,rfl⟩:=Prod.mk.inj (Option.some.inj hg)
   exact⟨_,List.mem_cons_of_mem _ List.mem_cons_self,8,172,_,gCon,qmb,kCon,rfl,qmq⟩
 | 0,hg =>
   obtain⟨rfl,rfl⟩:=Prod.mk.inj (Option.some.inj hg)
   exact⟨_,List.mem_cons_self,8,172,_,gRef,qma,kCon,rfl,qmp⟩
 | _+2,hg=>cases hg
theorem qiq :Nonempty (S97.H.GlK S97.glS):=⟨⟨rfl⟩⟩
theorem qip :Nonempty (S97.H.GlR S97.glS):=⟨⟨rfl⟩⟩
def zwp :Array Value:=(S97.kList.map fun x=>Value.int .u32 (x.toNat:Int)).toArray
def put (vs:Array Value):Obj->Obj
 | .cells _ t frozen=>.cells vs t frozen
 | o=>o
noncomputable def zmk (os:Os):World :=
 {World.holding Tryz.prog os ⟨#[],#[],[]⟩with heap:=((World.holding Tryz.prog os ⟨#[],#[],[]⟩).heap.modify 0 (put zwp)).modify 1 (put zwp)}
end Go.Proofs.YthipjfnealbheaaGreatDoor
