/-
  Chapter 3: proofs match the specification. No condition.
-/
import Derived.Test.YthelhoikbegjlaaDoorW03G26x3
import Derived.Test.YthelhoikbegjlaaDoorW03G23x3
import Derived.Test.YthelhoikbegjlaaDoorCards
import Derived.Test.YthelhoikbegjlaaDoorTie
import Derived.ProofKit
import Derived.OpenShut
import Derived.Deep.DeepHandedRow
import Derived.Lib.LaidTab
import Derived.MakeChecks
set_option linter.unusedVariables false
set_option linter.unusedSimpArgs false
set_option linter.unusedSectionVars false
namespace Go.Proofs.S03
open Go Go.Ev Go.Proofs Go.Mk
open Go.Proofs.S03.H (GlK GlR)
variable {gl :Gl} {n:Nat}
section
variable [Nonempty (GlK gl)] [Nonempty (GlR gl)] [Nonempty (GlB gl)]
theorem law3 (hn:1001<=n)(ar:List AV)(h:HasKds [.sl kB,kI,kI,.str] ar):call gl tab (n+1) 3 ar []=some (.bool true,[],[]):=by
 simp only[HasKds]at h
 obtain⟨_,_,rfl,h1,_,_,rfl,h2,_,_,rfl,h3,_,_,rfl,h4,rfl⟩:=h
 obtain⟨l,rfl,ha,hl0⟩:=kd_dgs h1
 obtain⟨i,rfl,hi⟩:=kd_i h2
 obtain⟨m,rfl,hm⟩:=kd_i h3
 obtain⟨s,rfl,hs⟩:=kd_str h4
 clear h1 h2 h3 h4
 have c9:=@sanity_at gl n _ _ _ hn
 have hL:=dgL_length l
 by_cases hl:l.length<=40
 case neg =>
  rw[call_go (fd:=fd3) rfl]
  simp(disch:=((fail_if_success (intro _));omega)) only[go_sem,simprocAttr,↓reduceIte,↓Nat.reduceEqDiff,xx,fd3,m3,c9,hL]
 by_cases hs2:s.length<=200
 case neg =>
  rw[call_go (fd:=fd3) rfl]
  simp(disch:=((fail_if_success (intro _));omega)) only[go_sem,simprocAttr,↓reduceIte,↓Nat.reduceEqDiff,xx,fd3,m3,c9,hL]
 obtain⟨p1,f1,s1,e1,u1⟩:=incl_pair (gl:=gl) (n:=n) (by omega) ha (by omega) i
 obtain⟨p2,f2,s2,e2,u2⟩:=cons_pair (gl:=gl) (n:=n) (by omega) ha (by omega) m
 have a1:=u1.x
 have b1:=u1.y
 have a2:=u2.x
 have b2:=u2.y
 have t1:=@same_at gl n (by omega) false f1 sB s1 p1 u1.a (.inr rfl) u1.s u1.l
 have t2:=@same_at gl n (by omega) false f2 sB s2 p2 u2.a (.inr rfl) u2.s u2.l
 have l1:=dgL_length p1
 have l2:=dgL_length p2
 have w1:=dgL_all p1
 have w2:=dgL_all p2
 have r1:=@root_at gl _ 40 n l false sB hl (by omega) ha (by omega) (.inr rfl)
 have r2:=@rroot_at gl _ 40 n l false sB hl (by omega) ha (by omega) (.inr rfl)
 have g1:=rt_len ha
 generalize rt nd em l=r at *
 have d1:=@leaf_at gl n _ (by omega) s (by omega)
 have d2:=@rleaf_at gl n _ (by omega) s (by omega)
 have g2:=lf_len s
 generalize lf s=d at *
 have n1:=@node_at gl n _ (by omega) d r g2 g1
 have n2:=@rnode_at gl n _ (by omega) d r g2 g1
 have g3:=nd_len d r
 generalize nd d r=q at *
 have q1:=H.bytes_all r
 have q2:=H.bytes_all d
 have q3:=H.bytes_all q
 have z1:=eqB g1 g1
 have z2:=eqB g2 g2
 have z3:=eqB g3 g3
 rw[decide_eq_true rfl]at z1 z2 z3
 have y1:=u1.l
 have y2:=u2.l
 clear u1 u2
 rw[call_go (fd:=fd3) rfl]
 simp(maxSteps:=1000000) (implicitDefEqProofs:=false) (disch:=((fail_if_success (intro _));omega)) only[go_sem,simprocAttr,↓reduceIte,↓Nat.reduceEqDiff,xx,fd3,m3,c9,↓out16_eq,H.out16_len,H.out16_all,H.out16_pl,hL,a1,b1,a2,b2,t1,t2,l1,l2,w1,w2,r1,r2,g1,g2,g3,d1,d2,n1,n2,q1,q2,q3,z1,z2,z3,sB_size,beq_self_eq_true]
end
end Go.Proofs.S03
namespace Go.Proofs.YthelhoikbegjlaaDoor
open Go Go.Ev Go.Proofs Go.ChangeShapes Go.WideShapes Go.ChangeAt Go.RowKit
theorem own :ownKnob Tryd.prog.godebug=none:=by kernel_rfl
theorem gBit :Tryd.prog.globalNamed "math/bits.deBruijn64tab" =some 1:=by kernel_rfl
theorem gCon :Tryd.prog.globalNamed "weirgate/hash.constants" =some 2:=by kernel_rfl
theorem gRef :Tryd.prog.globalNamed "weirgate/weirgateref02.constants" =some 3:=by kernel_rfl
theorem gBitT :(Tryd.prog.globals[1]?).map (·.type)=some 102:=by kernel_rfl
theorem gConT :(Tryd.prog.globals[2]?).map (·.type)=some 123:=by kernel_rfl
theorem gRefT :(Tryd.prog.globals[3]?).map (·.type)=some 123:=by kernel_rfl
theorem kBit :kdOf Tryd.prog 8 102=some (.ar 64 (.int .u8)):=by kernel_rfl
theorem kCon :kdOf Tryd.prog 8 123=some (.ar 64 (.int .u32)):=by kernel_rfl
theorem avBit :AV.agg (bytesAV S03.dbl)=avD (H:=Unit) (.ar 64 (.int .u8)) Rows.laid_math_bits_deBruijn64tab:=by kernel_rfl
theorem avCon :AV.agg S03.kA=avD (H:=Unit) (.ar 64 (.int .u32)) Rows.laid_weirgate_hash_constants:=by kernel_rfl
theorem avRef :AV.agg S03.kA=avD (H:=Unit) (.ar 64 (.int .u32)) Rows.laid_weirgate_weirgateref02_constants:=by kernel_rfl
theorem laidOk :laidOutB Tryd.prog=true:=by kernel_rfl
theorem fnOk_tbl {P:Program}{t t':Nat->Option (Sh×AV)}{ri:Nat->Option RInfo}{f:Nat}{fd:Ev.Fd}(h:FnOk P ⟨t,ri⟩ f fd):FnOk P ⟨t',ri⟩ f fd:=by
 cases h with
 | code h hlt ok=>exact .code h hlt ⟨ok.ok⟩
 | given g h hlt ok=>exact .given g h hlt ok
 | round rid ps sl ma mb hf h ok=>exact .round rid ps sl ma mb hf h ⟨ok.ok⟩
 | dfr D h hlt ok =>
   obtain⟨fn,codes,id,ops,cB,an,im,o,c,h1,h2,h3,h4,h5,h6,h7,h8,h9,h10,h11,h12,h13,h14,h15,h16,h17,fc⟩:=ok.ok
   exact .dfr D h hlt ⟨fn,codes,id,ops,cB,an,im,o,c,h1,h2,h3,h4,h5,h6,h7,h8,h9,h10,h11,h12,h13,h14,h15,h16,h17,⟨fc.ok⟩⟩
noncomputable def gl3:Gl:=⟨fun g=>match g with|1=>some (.ar 64 .sc,.agg (bytesAV S03.dbl))|2=>some (.ar 64 .sc,.agg S03.kA)|3=>some (.ar 64 .sc,.agg S03.kA)|_=>none,S03.ri⟩
theorem tab3_ok :∀f fd,S03.tab f=some fd->FnOk Tryd.prog gl3 f fd:=fun f fd h=>fnOk_tbl (S03.tab_ok f fd h)
theorem glHasK :Nonempty (S03.H.GlK gl3):=⟨⟨rfl⟩⟩
theorem glHasR :Nonempty (S03.H.GlR gl3):=⟨⟨rfl⟩⟩
theorem glHasB :Nonempty (S03.GlB gl3):=⟨⟨rfl⟩⟩
abbrev laid3 :List (String×DataW Unit):=[("math/bits.deBruijn32tab",Rows.laid_math_bits_deBruijn32tab),("math/bits.deBruijn64tab",Rows.laid_math_bits_deBruijn64tab),("weirgate/weirgateref02.constants",Rows.laid_weirgate_weirgateref02_constants),("weirgate/hash.constants",Rows.laid_weirgate_hash_constants)]
theorem glOk3 {W:World}(h:laidMetH Tryd.prog laid3 W):TabOk W.heap gl3:=by
 have h:laidMet Tryd.prog laid3 W:=h
 refine glOk_laid h fun g sh a hg=> ?_
 match g,hg with
 | 0,hg=>cases hg
 | 1,hg =>
   obtain⟨rfl,rfl⟩:=Prod.mk.inj (Option.some.inj hg)
   exact⟨_,List.mem_cons_of_mem _ List.mem_cons_self,8,102,_,gBit,gBitT,kBit,rfl,avBit⟩
 | 2,hg =>
   obtain⟨rfl,rfl⟩:=Prod.mk.inj (Option.some.inj hg)
   exact⟨_,List.mem_cons_of_mem _ (List.mem_cons_of_mem _ (List.mem_cons_of_mem _ List.mem_cons_self)),8,123,_,gCon,gConT,kCon,rfl,avCon⟩
 | 3,hg =>
   obtain⟨rfl,rfl⟩:=Prod.mk.inj (Option.some.inj hg)
   exact⟨_,List.mem_cons_of_mem _ (List.mem_cons_of_mem _ List.mem_cons_self),8,123,_,gRef,gRefT,kCon,rfl,avRef⟩
 | _+4,hg=>cases hg
def conCells :Array Value:=(S03.kList.map fun x=>Value.int .u32 (x.toNat:Int)).toArray
def bit32Cells :Array Value:=([0,1,28,2,29,14,24,3,30,22,20,15,25,17,4,8,31,27,13,23,21,19,16,7,26,12,18,6,11,5,10,9]:List Int).map (fun x=>Value.int .u8 x) |>.toArray
def bit64Cells :Array Value:=(S03.dbl.map fun x=>Value.int .u8 (x.toNat:Int)).toArray
def put (vs:Array Value):Obj->Obj
 | .cells _ t frozen=>.cells vs t frozen
 | o=>o
noncomputable def laidWorld (os:Os):World :=
 {World.holding Tryd.prog os ⟨#[],#[],[]⟩with heap:=((((World.holding Tryd.prog os ⟨#[],#[],[]⟩).heap.modify 0 (put bit32Cells)).modify 1 (put bit64Cells)).modify 2 (put conCells)).modify 3 (put conCells)}
end Go.Proofs.YthelhoikbegjlaaDoor
