/-
  Chapter 17: an object removed and taken in again (plain law). No condition.
-/
import Derived.Test.YthipjfnealbheaaDoorW17G26x5
import Derived.Test.YthipjfnealbheaaDoorW17G27x5
import Derived.Test.YthipjfnealbheaaDoorW17G6x5
import Derived.Test.YthipjfnealbheaaDoorCards
import Derived.Test.YthipjfnealbheaaDoorTie
import Derived.ProofKit
import Derived.OpenShut
import Derived.Deep.DeepHandedRow
import Derived.Lib.LaidTab
import Derived.MakeChecks
set_option linter.all false
open List renaming length_eraseIdx->wB,findIdx_cons->wC,getElem_set->wD,ext_getElem->wE
namespace Go.Proofs.S17
open Go Go.Ev Go.Proofs Go.Proofs.S17.Q
theorem z4y {l:List A3}{k:Nat}(hk:k<l.length)(v t:Int):idxT (updA l k v) t=idxT l t:=by
 have e:(updA l k v).map (fun a=>a.t)=l.map fun a=>a.t:=by
  unfold updA
  rw[List.map_set]
  refine wE (by simp) fun i h1 h2=> ?_
  rw[wD]
  split
  . rename_i e;subst e;rw[List.getElem_map,zvb hk]
  . rfl
 have f:∀m:List A3,idxT m t=(m.map fun a=>a.t).findIdx fun b=>decide (b=t):=fun m=>by
  unfold idxT
  induction m with
  | nil=>rfl
  | cons a m ih=>rw[List.map_cons,wC,wC,ih]
 rw[f,f,e]
theorem zxt {l:List A3}{k:Nat}(hk:k<l.length)(v:Int):updA (updA l k (-v)) k v=l:=by
 have e:=zey hk (-v) k
 rw[if_pos rfl]at e
 show(updA l k (-v)).set k ⟨(aat (updA l k (-v)) k).t,(aat (updA l k (-v)) k).w,(aat (updA l k (-v)) k).u+v⟩=l
 rw[e]
 unfold updA
 rw[List.set_set]
 simp only
 rw[show(aat l k).u+-v+v=(aat l k).u by omega]
 refine wE (by simp) fun i h1 h2=> ?_
 rw[wD]
 split
 . rename_i e;subst e;rw[<-zvb h2]
 . rfl
theorem z0b {l:List Ob}{j:Nat}(hj:j<l.length):insO (l.eraseIdx j) j (oat l j)=l:=by
 unfold insO
 have hl:(l.take j).length=j:=by simp;omega
 rw[List.eraseIdx_eq_take_drop_succ]
 have e1:(l.take j++l.drop (j+1)).take j=l.take j:=by
  conv=>lhs;arg 1;rw[<-hl]
  exact List.take_left
 have e2:(l.take j++l.drop (j+1)).drop j=l.drop (j+1):=by
  conv=>lhs;arg 1;rw[<-hl]
  exact List.drop_left
 rw[e1,e2,zy5 hj,<-List.drop_eq_getElem_cons hj,List.take_append_drop]
theorem z32 {l:List Ob}(hs:Srt l){j:Nat}(hj:j<l.length){k:Nat}(hp:Pn (l.eraseIdx j) (oat l j).nm k):k=j:=by
 have hl:(l.eraseIdx j).length=l.length-1:=by rw[wB,if_pos hj]
 have hle:=hp.le
 rcases Nat.lt_trichotomy j k with h3|h3|h3
 . have:=hp.lo j h3
   rw[zds hj,if_neg (Nat.lt_irrefl _)]at this
   have h4:=hs j (j+1) (by omega) (by omega)
   have h5:=Bl.trans this h4
   rw[Bl.irrefl]at h5;cases h5
 . exact h3.symm
 . have:=hp.hi k (Nat.le_refl _) (by omega)
   rw[zds hj,if_pos h3,hs k j h3 hj]at this;cases this
theorem qe3 {S:Sf}(hv:VSf S){j k:Nat}(hj:j<S.H.length):¬hasN (drp S j k) (oat S.H j).nm:=by
 rintro ⟨i,hi,e⟩
 have hl:(S.H.eraseIdx j).length=S.H.length-1:=by rw[wB,if_pos hj]
 have hi2:i<(S.H.eraseIdx j).length:=hi
 have e2:(oat (S.H.eraseIdx j) i).nm=(oat S.H j).nm:=e
 rw[zds hj]at e2
 have hs:=zc4 hv.ho
 by_cases h:i<j
 . rw[if_pos h]at e2
   have:=hs i j h hj;rw[e2,Bl.irrefl]at this;cases this
 . rw[if_neg h]at e2
   have:=hs j (i+1) (by omega) (by omega);rw[e2,Bl.irrefl]at this;cases this
theorem qbx {S:Sf}(hv:VSf S){j k:Nat}(hj:j<S.H.length)(hk:k<S.A.length)(hkt:(aat S.A k).t=(oat S.H j).tn){i:Nat}(hp:Pn (drp S j k).H (oat S.H j).nm i) :
  adm (drp S j k) (oat S.H j) i (idxT (drp S j k).A (oat S.H j).tn)=S:=by
 have e1:=z32 (zc4 hv.ho) hj hp
 subst e1
 have e2:idxT (drp S i k).A (oat S.H i).tn=k:=by
  show idxT (updA S.A k (-(oat S.H i).sz)) (oat S.H i).tn=k
  rw[z4y hk,<-hkt,z0i hv.va hk]
 rw[e2]
 unfold adm drp
 simp only
 rw[zxt hk,z0b hj]
end Go.Proofs.S17
namespace Go.Proofs.S17
open Go Go.Ev Go.Proofs Go.Proofs.S17.Q
variable {gl :Gl} {n:Nat}
theorem qga (h:5<=n){S:Sf}{q:Fl}(hq:FlOk S q)(hS:ArS S) :
  ∃b:Bool,(b=true↔(S.A.length<=8/\S.H.length<=30/\S.L.length<=300)/\VSf S)/\call gl tab n 13 [sfV S q] []=some (.bool b,[],[]):=by
 obtain⟨d,rfl⟩:=Nat.exists_eq_add_of_le' h
 obtain⟨bf,hbf,cf⟩:=@qaq gl (d+4) (by omega) S q hS
 rw[zah (fd:=fd13) rfl]
 cases bf with
 | false=>exact⟨false,⟨(fun h=>by cases h),fun h=>by have:=hbf.2 h.1;cases this⟩,by simp(disch:=apply zq;omega) only[go_sem,simprocAttr,↓Nat.reduceEqDiff,xx,fd13,m13,cf]⟩
 | true =>
   obtain⟨f1,f2,f3⟩:=hbf.1 rfl
   obtain⟨b2,hb2,c2⟩:=@rvalid_at gl (d+4) (by omega) S q hq (by omega) (by omega) (by omega)
   refine⟨b2,⟨fun h=>⟨⟨f1,f2,f3⟩,hb2.1 h⟩,fun h=>hb2.2 h.2⟩,?_⟩
   cases b2<;>simp(disch:=apply zq;omega) only[go_sem,simprocAttr,↓Nat.reduceEqDiff,xx,fd13,m13,cf,c2]
set_option maxHeartbeats 2000000 in
theorem qg3 [Nonempty (H.GlK gl)](hn:20<=n)(c7:call gl tab n 7 [] []=some (.bool true,[],[]))(ar:List AV)(h:HasKds [kF,.int .u8] ar):call gl tab (n+1) 5 ar []=some (.bool true,[],[]):=by
 simp only[HasKds]at h
 obtain⟨_,_,rfl,h1,_,_,rfl,⟨p,rfl,hp⟩,rfl⟩:=h
 have hp0:0<=p:=hp.1
 have hp1:p<=255:=hp.2
 clear hp
 obtain⟨S,rfl,hS⟩:=kdF h1
 obtain⟨b,hb,cv⟩:=@qga gl n (by omega) S (qq false false sO) ⟨.inr rfl,.inr rfl⟩ hS
 cases b with
 | false=>rw[zah (fd:=fd5) rfl];simp(disch:=apply zq;omega) only[go_sem,simprocAttr,↓Nat.reduceEqDiff,xx,fd5,m5,cv,c7]
 | true =>
 obtain⟨⟨f1,f2,f3⟩,hv⟩:=hb.1 rfl
 by_cases h0:S.H.length=0
 . rw[zah (fd:=fd5) rfl];simp(disch:=apply zq;omega) only[go_sem,simprocAttr,↓Nat.reduceEqDiff,xx,fd5,m5,cv,c7,zaa]
 obtain⟨j,hj,hpj⟩:∃j:Nat,j<S.H.length/\p.tmod (S.H.length:Int)=(j:Int):=by
  have h2:=Int.emod_nonneg p (show(S.H.length:Int)≠0 by omega)
  have h3:=Int.emod_lt_of_pos p (show 0<(S.H.length:Int) by omega)
  refine⟨(p%(S.H.length:Int)).toNat,by omega,?_⟩
  rw[Int.tmod_eq_emod_of_nonneg hp0];omega
 have hrem:zam .rem .i64 p (S.H.length:Int)=some (.int .i64 (j:Int)):=by
  show(if(S.H.length:Int)=0 then none else some (AV.int .i64 (p.tmod (S.H.length:Int))))=_
  rw[if_neg (by omega),hpj]
 have hr:=(hv.ho j hj).r
 obtain⟨g1,g2⟩:=zi5 hv.va (hv.ho j hj).t
 generalize hk:idxT S.A (oat S.H j).tn=k at *
 have hvd:=zq2 hv hj g1 g2
 have htd:Tn (drp S j k).A:=z65 hS.t g1
 have hld:(drp S j k).H.length=S.H.length-1:=by show(S.H.eraseIdx j).length=_;rw[wB,if_pos hj]
 have hnm:∀i,i<S.H.length->(oat S.H i).nm.length<=5000:=fun i hi=>by have:=(hv.ho i hi).r.nl;omega
 have hnd:∀i,i<(drp S j k).H.length->(oat (drp S j k).H i).nm.length<=5000:=fun i hi=>by have:=(hvd.ho i hi).r.nl;omega
 have c1:=@zyr gl n (by omega) S false false sO hv hS.t (.inr rfl) j hj
 rw[hk]at c1
 have hno:=qe3 (k:=k) hv hj
 have c2:=@zpw gl n (by omega) (drp S j k) (oat S.H j).nm false false sO hvd (.inr rfl) hno
 have htot:tot (drp S j k)+(oat S.H j).sz<=(drp S j k).c:=by
  show sumU (updA S.A k (-(oat S.H j).sz)) (updA S.A k (-(oat S.H j).sz)).length+(oat S.H j).sz<=S.c
  rw[zaz,zh0 g1,if_pos g1]
  have:=hv.ht;omega
 have hha:hasT (drp S j k) (oat S.H j).tn:=⟨k,by show k<(updA _ _ _).length;rw[zaz];exact g1,by show(aat (updA _ _ _) k).t=_;rw[zjh g1];exact g2⟩
 obtain⟨i,hp',c3⟩:=@zl3 gl n _ (by omega) (drp S j k) (oat S.H j) false false sO hvd htd hnd (.inr rfl) hr (hnm j hj) hha hno (by omega) htot
 rw[qbx hv hj g1 g2 hp']at c3
 have c4:=@same_at gl n (by omega) S (qq false false sO) (qq false false sO) ⟨.inr rfl,.inr rfl⟩ ⟨.inr rfl,.inr rfl⟩ (by omega) (by omega) (by omega)
 have hx:=zeq hj
 have eo:oV (oat S.H j)= .agg [.str (oat S.H j).nm,i64 (oat S.H j).tn,i64 (oat S.H j).sz,i64 (oat S.H j).la]:=rfl
 rw[eo]at c3
 generalize drp S j k=D at *
 generalize oat S.H j=o at *
 rw[zah (fd:=fd5) rfl]
 simp(disch:=apply zq;omega) only[go_sem,simprocAttr,↓Nat.reduceEqDiff,xx,fd5,m5,cv,c7,zaa,hx,hrem,c1,c2,c3,c4]
theorem law5 [Nonempty (H.GlK gl)](hn:20<=n)(ar:List AV)(h:HasKds [kF,.int .u8] ar):call gl tab (n+1) 5 ar []=some (.bool true,[],[]):=qg3 hn (zyg (by omega)) ar h
end Go.Proofs.S17
namespace Go.Proofs.YthipjfnealbheaaDoor
open Go Go.Ev Go.Proofs Go.ChangeShapes Go.WideShapes Go.ChangeAt Go.RowKit
theorem own :ownKnob Tryd.prog.godebug=none:=by kernel_rfl
theorem gCon :Tryd.prog.globalNamed "weirgate/hash.constants" =some 0:=by kernel_rfl
theorem qhc :(Tryd.prog.globals[0]?).map (·.type)=some 148:=by kernel_rfl
theorem kCon :kdOf Tryd.prog 8 148=some (.ar 64 (.int .u32)):=by kernel_rfl
theorem qhp :AV.agg S17.kA=avD (H:=Unit) (.ar 64 (.int .u32)) Rows.laid_weirgate_hash_constants:=by kernel_rfl
theorem qdz :laidOutB Tryd.prog=true:=by kernel_rfl
theorem z5f {P:Program}{t t':Nat->Option (Sh×AV)}{ri:Nat->Option RInfo}{f:Nat}{fd:Ev.Fd}(h:FnOk P ⟨t,ri⟩ f fd):FnOk P ⟨t',ri⟩ f fd:=by
 cases h with
 | code h hlt ok=>exact .code h hlt ⟨ok.ok⟩
 | given g h hlt ok=>exact .given g h hlt ok
 | round rid ps sl ma mb hf h ok=>exact .round rid ps sl ma mb hf h ⟨ok.ok⟩
 | dfr D h hlt ok =>
   obtain⟨fn,codes,id,ops,cB,an,im,o,c,h1,h2,h3,h4,h5,h6,h7,h8,h9,h10,h11,h12,h13,h14,h15,h16,h17,fc⟩:=ok.ok
   exact .dfr D h hlt ⟨fn,codes,id,ops,cB,an,im,o,c,h1,h2,h3,h4,h5,h6,h7,h8,h9,h10,h11,h12,h13,h14,h15,h16,h17,⟨fc.ok⟩⟩
noncomputable def gl1:Gl:=⟨fun g=>match g with|0=>some (.ar 64 .sc,.agg S17.kA)|_=>none,S17.ri⟩
theorem z7z :∀f fd,S17.tab f=some fd->FnOk Tryd.prog gl1 f fd:=fun f fd h=>z5f (S17.tab_ok f fd h)
theorem qev :Nonempty (S17.H.GlK gl1):=⟨⟨rfl⟩⟩
abbrev qd0 :List (String×DataW Unit):=[("weirgate/hash.constants",Rows.laid_weirgate_hash_constants)]
theorem qhb {W:World}(h:laidMetH Tryd.prog qd0 W):TabOk W.heap gl1:=by
 have h:laidMet Tryd.prog qd0 W:=h
 refine z05 h fun g sh a hg=> ?_
 match g,hg with
 | 0,hg =>
   obtain⟨rfl,rfl⟩:=Prod.mk.inj (Option.some.inj hg)
   exact⟨_,List.mem_cons_self,8,148,_,gCon,qhc,kCon,rfl,qhp⟩
 | _+1,hg=>cases hg
def z54 :Array Value:=(S17.kList.map fun x=>Value.int .u32 (x.toNat:Int)).toArray
def put (vs:Array Value):Obj->Obj
 | .cells _ t frozen=>.cells vs t frozen
 | o=>o
noncomputable def zlh (os:Os):World :=
 {World.holding Tryd.prog os ⟨#[],#[],[]⟩with heap:=(World.holding Tryd.prog os ⟨#[],#[],[]⟩).heap.modify 0 (put z54)}
end Go.Proofs.YthipjfnealbheaaDoor
