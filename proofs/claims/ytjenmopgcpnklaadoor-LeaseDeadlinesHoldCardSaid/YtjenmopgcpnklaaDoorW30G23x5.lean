/-
  Chapter 30: the deadlines hold, the law. No condition.
-/
import Derived.Test.YtjenmopgcpnklaaDoorW30G22x5
import Derived.Test.YtjenmopgcpnklaaDoorW30G2x5
import Derived.Test.YtjenmopgcpnklaaDoorCards
import Derived.Test.YtjenmopgcpnklaaDoorTie
import Derived.ProofKit
import Derived.OpenShut
import Derived.Deep.DeepHandedRow
import Derived.Lib.LaidTab
import Derived.MakeChecks
set_option linter.unusedVariables false
set_option linter.unusedSimpArgs false
set_option linter.unusedSectionVars false
namespace Go.Proofs.S30.G
open Go Go.Ev Go.Proofs Go.Ck
open Go.Proofs.S30.H (GlK GlR)
variable {gl :Gl} {n:Nat}
theorem rem500 (y:Nat):binInt .rem .i64 (y:Int) 500=some (i64 ((y%500:Nat):Int)):=by
 show(if(500:Int)=0 then none else some (AV.int .i64 (Int.tmod (y:Int) 500)))=_
 rw[if_neg (by decide)];rfl
def acat (l:List Ac)(i:Nat):Ac:=l.getD i ⟨0,0,0,0,0,0⟩
theorem acs_at {l:List Ac}{i:Nat}(h:i<l.length):(acs l)[i]? =some (acAV (acat l i)):=by simp[acs,acat,h]
theorem acat_mem {l:List Ac}{i:Nat}(h:i<l.length):acat l i∈l:=by
 rw[show acat l i=l[i] by simp[acat,h]];exact List.getElem_mem h
theorem worlds [Nonempty (GlK gl)](hn:14<=n){m:Int}(h1:1<=m)(h2:m<=500){l:List Ac}(hl:l.length<=60)(ok:∀x∈l,AOk x):∀k,k<=l.length ->
  ∃f:Nat->Wd×Fg,f 0=(wB m 3,fB)/\∀i,i<=k->(WI (f i).1 i/\FOk (f i).1 (f i).2)/\(i<k->call gl tab n 28 [wAV (f i).1 (f i).2,acAV (acat l i)] []=some (wAV (f (i+1)).1 (f (i+1)).2,[],[]))
 | 0,_=>⟨fun _=>(wB m 3,fB),rfl,fun i hi=>⟨by
    obtain rfl:i=0:=by omega
    exact⟨wi_begin h1 h2,⟨.inl rfl,.inl rfl⟩⟩,fun h=>by omega⟩⟩
 | k+1,hk=>by
   obtain⟨f,f0,hf⟩:=worlds hn h1 h2 hl ok k (by omega)
   have hk1:=(hf k (Nat.le_refl _)).1
   obtain⟨w',p',c,i1,i2⟩:=act_any (gl:=gl) (n:=n) hn hk1.1 (by omega) hk1.2 (ok _ (acat_mem (show k<l.length by omega)))
   refine⟨fun i=>if i<=k then f i else(w',p'),by simp only[Nat.zero_le,if_true,f0],fun i hi=> ?_⟩
   by_cases e:i=k+1
   . subst e
     simp only[if_neg (show ¬k+1<=k by omega)]
     exact⟨⟨i1,i2⟩,fun h=>by omega⟩
   . simp only[if_pos (show i<=k by omega)]
     refine⟨(hf i (by omega)).1,fun _=> ?_⟩
     by_cases e2:i=k
     . subst e2
       rw[if_neg (show ¬i+1<=i by omega)]
       exact c
     . rw[if_pos (show i+1<=k by omega)]
       exact(hf i (by omega)).2 (by omega)
def L5 :MC:=match m5 with| .seq _ (.seq _ (.seq _ (.seq _ (.seq (.seq _ (.block _ (.loop _ b))) _))))=>b|_=>.skip
def S5 (f:Nat->Wd×Fg)(l:List Ac)(i:Nat):St:=⟨[.set 7 (i64 i),.set 5 (.ptr 5 []),.set 1 (.lst false sAc (acs l))],[(5,.fix sW (wAV (f i).1 (f i).2))]⟩
theorem step5 {d:Nat}(hd:6<=d){f:Nat->Wd×Fg}{l:List Ac}(hl:l.length<=60){i:Nat}(hi:i<l.length)(hx:AOk (acat l i))(h:WI (f i).1 i)(h':WI (f (i+1)).1 (i+1))(fp:FOk (f (i+1)).1 (f (i+1)).2)
  (c:call gl tab d 28 [wAV (f i).1 (f i).2,acAV (acat l i)] []=some (wAV (f (i+1)).1 (f (i+1)).2,[],[])) :
  contK [.slot 1,.slot 5,.slot 7,.key 5] (evC gl (call gl tab d) L5 (S5 f l i))=some (S5 f l (i+1)):=by
 have hL:=acs_length l
 have hat:=acs_at hi
 have c2:=safe_at (gl:=gl) (n:=d) hd h' (by omega) (f (i+1)).2 fp.g hx.ea
 rw[S5,S5]
 have l0:=(h.a 0 (by omega)).z
 have l1:=(h.a 1 (by omega)).z
 have l2:=(h.a 2 (by omega)).z
 have q0:=H.bytes_all ((f i).1.h 0).le.sgn
 have q1:=H.bytes_all ((f i).1.h 1).le.sgn
 have q2:=H.bytes_all ((f i).1.h 2).le.sgn
 have l3:=(h'.a 0 (by omega)).z
 have l4:=(h'.a 1 (by omega)).z
 have l5:=(h'.a 2 (by omega)).z
 have q3:=H.bytes_all ((f (i+1)).1.h 0).le.sgn
 have q4:=H.bytes_all ((f (i+1)).1.h 1).le.sgn
 have q5:=H.bytes_all ((f (i+1)).1.h 2).le.sgn
 have hea:=hx.ea
 clear h h' fp hx
 generalize (f (i+1)).1=w' at *
 generalize (f (i+1)).2=p' at *
 generalize (f i).1=w at *
 generalize (f i).2=p at *
 generalize acat l i=x at *
 simp(disch:=((fail_if_success (intro _));omega)) only[go_sem,simprocAttr,↓reduceIte,↓Nat.reduceEqDiff,xx,L5,m5,↓out16_eq,H.out16_len,H.out16_all,H.out16_pl,hL,hat,l0,l1,l2,l3,l4,l5,q0,q1,q2,q3,q4,q5,c,c2]
theorem law5 [Nonempty (GlK gl)](hn:20<=n)(ar:List AV)(h:HasKds [.int .u16,.sl kAc] ar):call gl tab (n+1) 5 ar []=some (.bool true,[],[]):=by
 simp only[HasKds]at h
 obtain⟨_,_,rfl,h1,_,_,rfl,h2,rfl⟩:=h
 obtain⟨y,rfl,hy⟩:=kd_u16 h1
 obtain⟨l,rfl,ok⟩:=kd_acs h2
 clear h1 h2
 have c7:=@sanity_at gl n _ hn
 have hL:=acs_length l
 have r:=rem500 y
 have hm:y%500<500:=Nat.mod_lt _ (by decide)
 generalize y%500=m at *
 have b:=@begin_at gl n (by omega) (1+(m:Int)) (by omega) (by omega)
 have k:∀a,((wB (1+(m:Int)) 3).h a).le.sgn.length=16:=fun a=>rfl
 have q:∀a,(bytesAV ((wB (1+(m:Int)) 3).h a).le.sgn).all (fun x=>x.scalar)=true:=fun a=>H.bytes_all _
 by_cases g1:l.length<=60
 case neg =>
  generalize wB (1+(m:Int)) 3=w at *
  rw[call_go (fd:=fd5) rfl]
  simp(disch:=((fail_if_success (intro _));omega)) only[go_sem,simprocAttr,↓reduceIte,↓Nat.reduceEqDiff,xx,fd5,m5,c7,hL,r,b,k,q,↓out16_eq,H.out16_len,H.out16_all,H.out16_pl]
 obtain⟨f,f0,hf⟩:=worlds (gl:=gl) (n:=n) (by omega) (m:=1+(m:Int)) (by omega) (by omega) g1 ok l.length (Nat.le_refl _)
 have st:=fun i (hi:i<l.length)=>@step5 gl n (by omega) f l g1 i hi (ok _ (acat_mem hi)) (hf i (by omega)).1.1 (hf (i+1) (by omega)).1.1 (hf (i+1) (by omega)).1.2 ((hf i (by omega)).2 hi)
 simp only[L5,m5,↓out16_eq]at st
 have e1:(f 0).1=wB (1+(m:Int)) 3:=by rw[f0]
 have e2:(f 0).2=fB:=by rw[f0]
 rw[<-e1,<-e2]at b
 rw[<-e1]at k q
 have l3:=((hf l.length (Nat.le_refl _)).1.1.a 0 (by omega)).z
 have l4:=((hf l.length (Nat.le_refl _)).1.1.a 1 (by omega)).z
 have l5:=((hf l.length (Nat.le_refl _)).1.1.a 2 (by omega)).z
 have q3:=H.bytes_all ((f l.length).1.h 0).le.sgn
 have q4:=H.bytes_all ((f l.length).1.h 1).le.sgn
 have q5:=H.bytes_all ((f l.length).1.h 2).le.sgn
 clear hf f0 e1 e2
 rw[call_go (fd:=fd5) rfl]
 simp(disch:=((fail_if_success (intro _));omega)) only[go_sem,simprocAttr,↓reduceIte,↓Nat.reduceEqDiff,xx,fd5,m5,c7,hL,r,b,k,q,↓out16_eq,H.out16_len,H.out16_all,H.out16_pl]
 rw[iter_to (S5 f l) l.length (by unfold LF;omega)]
 . rw[S5];simp(disch:=((fail_if_success (intro _));omega)) only[go_sem,simprocAttr,↓reduceIte,↓Nat.reduceEqDiff,xx,c7,hL,l3,l4,l5,q3,q4,q5,H.out16_len,H.out16_all,H.out16_pl]
 . rw[S5];simp(disch:=((fail_if_success (intro _));omega)) only[go_sem,simprocAttr,↓reduceIte,↓Nat.reduceEqDiff,xx,hL]
 . exact st
 . rw[S5];simp(disch:=((fail_if_success (intro _));omega)) only[go_sem,simprocAttr,↓reduceIte,↓Nat.reduceEqDiff,xx,hL]
end Go.Proofs.S30.G
namespace Go.Proofs.YtjenmopgcpnklaaDoor
open Go Go.Ev Go.Proofs Go.ChangeShapes Go.WideShapes Go.ChangeAt Go.RowKit
theorem own :ownKnob Tryd.prog.godebug=none:=by kernel_rfl
theorem gCon :Tryd.prog.globalNamed "weirgate/hash.constants" =some 1:=by kernel_rfl
theorem gRef :Tryd.prog.globalNamed "weirgate/weirgateref02.constants" =some 0:=by kernel_rfl
theorem gConT :(Tryd.prog.globals[1]?).map (·.type)=some 165:=by kernel_rfl
theorem gRefT :(Tryd.prog.globals[0]?).map (·.type)=some 165:=by kernel_rfl
theorem kCon :kdOf Tryd.prog 8 165=some (.ar 64 (.int .u32)):=by kernel_rfl
theorem avCon :AV.agg S30.kA=avD (H:=Unit) (.ar 64 (.int .u32)) Rows.laid_weirgate_hash_constants:=by kernel_rfl
theorem avRef :AV.agg S30.kA=avD (H:=Unit) (.ar 64 (.int .u32)) Rows.laid_weirgate_weirgateref02_constants:=by kernel_rfl
theorem laidOk :laidOutB Tryd.prog=true:=by kernel_rfl
abbrev laid2 :List (String×DataW Unit):=[("weirgate/weirgateref02.constants",Rows.laid_weirgate_weirgateref02_constants),("weirgate/hash.constants",Rows.laid_weirgate_hash_constants)]
theorem glOk2 {W:World}(h:laidMetH Tryd.prog laid2 W):TabOk W.heap S30.glS:=by
 have h:laidMet Tryd.prog laid2 W:=h
 refine glOk_laid h fun g sh a hg=> ?_
 match g,hg with
 | 0,hg =>
   obtain⟨rfl,rfl⟩:=Prod.mk.inj (Option.some.inj hg)
   exact⟨_,List.mem_cons_self,8,165,_,gRef,gRefT,kCon,rfl,avRef⟩
 | 1,hg =>
   obtain⟨rfl,rfl⟩:=Prod.mk.inj (Option.some.inj hg)
   exact⟨_,List.mem_cons_of_mem _ List.mem_cons_self,8,165,_,gCon,gConT,kCon,rfl,avCon⟩
 | _+2,hg=>cases hg
theorem glHasK :Nonempty (S30.H.GlK S30.glS):=⟨⟨rfl⟩⟩
theorem glHasR :Nonempty (S30.H.GlR S30.glS):=⟨⟨rfl⟩⟩
theorem fnOk_tbl {P:Program}{t t':Nat->Option (Sh×AV)}{ri:Nat->Option RInfo}{f:Nat}{fd:Ev.Fd}(h:FnOk P ⟨t,ri⟩ f fd):FnOk P ⟨t',ri⟩ f fd:=by
 cases h with
 | code h hlt ok=>exact .code h hlt ⟨ok.ok⟩
 | given g h hlt ok=>exact .given g h hlt ok
 | round rid ps sl ma mb hf h ok=>exact .round rid ps sl ma mb hf h ⟨ok.ok⟩
 | dfr D h hlt ok =>
   obtain⟨fn,codes,id,ops,cB,an,im,o,c,h1,h2,h3,h4,h5,h6,h7,h8,h9,h10,h11,h12,h13,h14,h15,h16,h17,fc⟩:=ok.ok
   exact .dfr D h hlt ⟨fn,codes,id,ops,cB,an,im,o,c,h1,h2,h3,h4,h5,h6,h7,h8,h9,h10,h11,h12,h13,h14,h15,h16,h17,⟨fc.ok⟩⟩
noncomputable def gl1:Gl:=⟨fun g=>match g with|1=>some (.ar 64 .sc,.agg S30.kA)|_=>none,S30.ri⟩
theorem tab1_ok :∀f fd,S30.tab f=some fd->FnOk Tryd.prog gl1 f fd:=fun f fd h=>fnOk_tbl (S30.tab_ok f fd h)
theorem glHas1 :Nonempty (S30.H.GlK gl1):=⟨⟨rfl⟩⟩
abbrev laid1 :List (String×DataW Unit):=[("weirgate/hash.constants",Rows.laid_weirgate_hash_constants)]
theorem glOk1 {W:World}(h:laidMetH Tryd.prog laid1 W):TabOk W.heap gl1:=by
 have h:laidMet Tryd.prog laid1 W:=h
 refine glOk_laid h fun g sh a hg=> ?_
 match g,hg with
 | 0,hg=>cases hg
 | 1,hg =>
   obtain⟨rfl,rfl⟩:=Prod.mk.inj (Option.some.inj hg)
   exact⟨_,List.mem_cons_self,8,165,_,gCon,gConT,kCon,rfl,avCon⟩
 | _+2,hg=>cases hg
def conCells :Array Value:=(S30.kList.map fun x=>Value.int .u32 (x.toNat:Int)).toArray
def put (vs:Array Value):Obj->Obj
 | .cells _ t frozen=>.cells vs t frozen
 | o=>o
noncomputable def laidWorld (os:Os):World :=
 {World.holding Tryd.prog os ⟨#[],#[],[]⟩with heap:=((World.holding Tryd.prog os ⟨#[],#[],[]⟩).heap.modify 0 (put conCells)).modify 1 (put conCells)}
end Go.Proofs.YtjenmopgcpnklaaDoor
