/-
  Chapter 3: proofs of several elements match the specification. No condition.
-/
import Derived.Test.YthelhoikbegjlaaDoorW03G26x4
import Derived.Test.YthelhoikbegjlaaDoorW03G23x4
import Derived.Test.YthelhoikbegjlaaDoorCards
import Derived.Test.YthelhoikbegjlaaDoorTie
import Derived.ProofKit
import Derived.OpenShut
import Derived.Deep.DeepHandedRow
import Derived.Lib.LaidTab
import Derived.MakeChecks
set_option linter.unusedVariables false
set_option linter.unusedSimpArgs false
set_option linter.unusedSectionVars false
namespace Go.Proofs.S03
open Go Go.Ev Go.Proofs Go.Mk
open Go.Proofs.S03.H (GlK GlR)
variable {gl :Gl} {n:Nat}
section
variable [Nonempty (GlK gl)] [Nonempty (GlR gl)] [Nonempty (GlB gl)]
theorem law4 (hn:1001<=n)(ar:List AV)(h:HasKds [.sl kB,.sl kI,kI,.sl kB,.sl kB,kB] ar):call gl tab (n+1) 4 ar []=some (.bool true,[],[]):=by
 simp only[HasKds]at h
 obtain⟨_,_,rfl,h1,_,_,rfl,h2,_,_,rfl,h3,_,_,rfl,h4,_,_,rfl,h5,_,_,rfl,h6,rfl⟩:=h
 obtain⟨l,rfl,ha,hl0⟩:=kd_dgs h1
 obtain⟨pl,rfl,hp0⟩:=kd_is h2
 obtain⟨N,rfl,hN⟩:=kd_i h3
 obtain⟨fs,rfl,hfa,hf0⟩:=kd_dgs h4
 obtain⟨p,rfl,hpa,hq0⟩:=kd_dgs h5
 obtain⟨r,rfl,hr⟩:=kd_B h6
 clear h1 h2 h3 h4 h5 h6
 have c9:=@sanity_at gl n _ _ _ hn
 have q0:=H.bytes_all r
 have hL:=dgL_length l
 have hP:=pI_length pl
 have hF:=dgL_length fs
 have hQ:=dgL_length p
 by_cases hl:l.length<=40
 case neg =>
  rw[call_go (fd:=fd4) rfl]
  simp(disch:=((fail_if_success (intro _));omega)) only[go_sem,simprocAttr,↓reduceIte,↓Nat.reduceEqDiff,xx,fd4,m4,c9,hL,hP,hF,hQ,hr,q0]
 by_cases hl2:pl.length<=12
 case neg =>
  rw[call_go (fd:=fd4) rfl]
  simp(disch:=((fail_if_success (intro _));omega)) only[go_sem,simprocAttr,↓reduceIte,↓Nat.reduceEqDiff,xx,fd4,m4,c9,hL,hP,hF,hQ,hr,q0]
 by_cases hl3:fs.length<=12
 case neg =>
  rw[call_go (fd:=fd4) rfl]
  simp(disch:=((fail_if_success (intro _));omega)) only[go_sem,simprocAttr,↓reduceIte,↓Nat.reduceEqDiff,xx,fd4,m4,c9,hL,hP,hF,hQ,hr,q0]
 by_cases hl4:p.length<=60
 case neg =>
  rw[call_go (fd:=fd4) rfl]
  simp(disch:=((fail_if_success (intro _));omega)) only[go_sem,simprocAttr,↓reduceIte,↓Nat.reduceEqDiff,xx,fd4,m4,c9,hL,hP,hF,hQ,hr,q0]
 obtain⟨p1,f1,s1,e1,u1⟩:=many_pair (gl:=gl) (n:=n) (by omega) ha (by omega) pl (by omega)
 obtain⟨b,k1,k2⟩:=checkM_pair (gl:=gl) (n:=n) (by omega) N hr (pl:=pl) (by omega) hpa (by omega) hfa (by omega)
 have a1:=u1.x
 have b1:=u1.y
 have t1:=@same_at gl n (by omega) false f1 sB s1 p1 u1.a (.inr rfl) u1.s u1.l
 have l1:=dgL_length p1
 have w1:=dgL_all p1
 have y1:=u1.l
 clear u1
 rw[call_go (fd:=fd4) rfl]
 cases b with
 | false=>simp(maxSteps:=1000000) (implicitDefEqProofs:=false) (disch:=((fail_if_success (intro _));omega)) only[go_sem,simprocAttr,↓reduceIte,↓Nat.reduceEqDiff,xx,fd4,m4,c9,↓out16_eq,H.out16_len,H.out16_all,H.out16_pl,hL,hP,hF,hQ,hr,q0,a1,b1,t1,l1,w1,k1,k2,sB_size,beq_self_eq_true]
 | true=>simp(maxSteps:=1000000) (implicitDefEqProofs:=false) (disch:=((fail_if_success (intro _));omega)) only[go_sem,simprocAttr,↓reduceIte,↓Nat.reduceEqDiff,xx,fd4,m4,c9,↓out16_eq,H.out16_len,H.out16_all,H.out16_pl,hL,hP,hF,hQ,hr,q0,a1,b1,t1,l1,w1,k1,k2,sB_size,beq_self_eq_true]
end
end Go.Proofs.S03
namespace Go.Proofs.YthelhoikbegjlaaDoor
open Go Go.Ev Go.Proofs Go.ChangeShapes Go.WideShapes Go.ChangeAt Go.RowKit
theorem own :ownKnob Tryd.prog.godebug=none:=by kernel_rfl
theorem gBit :Tryd.prog.globalNamed "math/bits.deBruijn64tab" =some 1:=by kernel_rfl
theorem gCon :Tryd.prog.globalNamed "weirgate/hash.constants" =some 2:=by kernel_rfl
theorem gRef :Tryd.prog.globalNamed "weirgate/weirgateref02.constants" =some 3:=by kernel_rfl
theorem gBitT :(Tryd.prog.globals[1]?).map (·.type)=some 102:=by kernel_rfl
theorem gConT :(Tryd.prog.globals[2]?).map (·.type)=some 123:=by kernel_rfl
theorem gRefT :(Tryd.prog.globals[3]?).map (·.type)=some 123:=by kernel_rfl
theorem kBit :kdOf Tryd.prog 8 102=some (.ar 64 (.int .u8)):=by kernel_rfl
theorem kCon :kdOf Tryd.prog 8 123=some (.ar 64 (.int .u32)):=by kernel_rfl
theorem avBit :AV.agg (bytesAV S03.dbl)=avD (H:=Unit) (.ar 64 (.int .u8)) Rows.laid_math_bits_deBruijn64tab:=by kernel_rfl
theorem avCon :AV.agg S03.kA=avD (H:=Unit) (.ar 64 (.int .u32)) Rows.laid_weirgate_hash_constants:=by kernel_rfl
theorem avRef :AV.agg S03.kA=avD (H:=Unit) (.ar 64 (.int .u32)) Rows.laid_weirgate_weirgateref02_constants:=by kernel_rfl
theorem laidOk :laidOutB Tryd.prog=true:=by kernel_rfl
theorem fnOk_tbl {P:Program}{t t':Nat->Option (Sh×AV)}{ri:Nat->Option RInfo}{f:Nat}{fd:Ev.Fd}(h:FnOk P ⟨t,ri⟩ f fd):FnOk P ⟨t',ri⟩ f fd:=by
 cases h with
 | code h hlt ok=>exact .code h hlt ⟨ok.ok⟩
 | given g h hlt ok=>exact .given g h hlt ok
 | round rid ps sl ma mb hf h ok=>exact .round rid ps sl ma mb hf h ⟨ok.ok⟩
 | dfr D h hlt ok =>
   obtain⟨fn,codes,id,ops,cB,an,im,o,c,h1,h2,h3,h4,h5,h6,h7,h8,h9,h10,h11,h12,h13,h14,h15,h16,h17,fc⟩:=ok.ok
   exact .dfr D h hlt ⟨fn,codes,id,ops,cB,an,im,o,c,h1,h2,h3,h4,h5,h6,h7,h8,h9,h10,h11,h12,h13,h14,h15,h16,h17,⟨fc.ok⟩⟩
noncomputable def gl3:Gl:=⟨fun g=>match g with|1=>some (.ar 64 .sc,.agg (bytesAV S03.dbl))|2=>some (.ar 64 .sc,.agg S03.kA)|3=>some (.ar 64 .sc,.agg S03.kA)|_=>none,S03.ri⟩
theorem tab3_ok :∀f fd,S03.tab f=some fd->FnOk Tryd.prog gl3 f fd:=fun f fd h=>fnOk_tbl (S03.tab_ok f fd h)
theorem glHasK :Nonempty (S03.H.GlK gl3):=⟨⟨rfl⟩⟩
theorem glHasR :Nonempty (S03.H.GlR gl3):=⟨⟨rfl⟩⟩
theorem glHasB :Nonempty (S03.GlB gl3):=⟨⟨rfl⟩⟩
abbrev laid3 :List (String×DataW Unit):=[("math/bits.deBruijn32tab",Rows.laid_math_bits_deBruijn32tab),("math/bits.deBruijn64tab",Rows.laid_math_bits_deBruijn64tab),("weirgate/weirgateref02.constants",Rows.laid_weirgate_weirgateref02_constants),("weirgate/hash.constants",Rows.laid_weirgate_hash_constants)]
theorem glOk3 {W:World}(h:laidMetH Tryd.prog laid3 W):TabOk W.heap gl3:=by
 have h:laidMet Tryd.prog laid3 W:=h
 refine glOk_laid h fun g sh a hg=> ?_
 match g,hg with
 | 0,hg=>cases hg
 | 1,hg =>
   obtain⟨rfl,rfl⟩:=Prod.mk.inj (Option.some.inj hg)
   exact⟨_,List.mem_cons_of_mem _ List.mem_cons_self,8,102,_,gBit,gBitT,kBit,rfl,avBit⟩
 | 2,hg =>
   obtain⟨rfl,rfl⟩:=Prod.mk.inj (Option.some.inj hg)
   exact⟨_,List.mem_cons_of_mem _ (List.mem_cons_of_mem _ (List.mem_cons_of_mem _ List.mem_cons_self)),8,123,_,gCon,gConT,kCon,rfl,avCon⟩
 | 3,hg =>
   obtain⟨rfl,rfl⟩:=Prod.mk.inj (Option.some.inj hg)
   exact⟨_,List.mem_cons_of_mem _ (List.mem_cons_of_mem _ List.mem_cons_self),8,123,_,gRef,gRefT,kCon,rfl,avRef⟩
 | _+4,hg=>cases hg
def conCells :Array Value:=(S03.kList.map fun x=>Value.int .u32 (x.toNat:Int)).toArray
def bit32Cells :Array Value:=([0,1,28,2,29,14,24,3,30,22,20,15,25,17,4,8,31,27,13,23,21,19,16,7,26,12,18,6,11,5,10,9]:List Int).map (fun x=>Value.int .u8 x) |>.toArray
def bit64Cells :Array Value:=(S03.dbl.map fun x=>Value.int .u8 (x.toNat:Int)).toArray
def put (vs:Array Value):Obj->Obj
 | .cells _ t frozen=>.cells vs t frozen
 | o=>o
noncomputable def laidWorld (os:Os):World :=
 {World.holding Tryd.prog os ⟨#[],#[],[]⟩with heap:=((((World.holding Tryd.prog os ⟨#[],#[],[]⟩).heap.modify 0 (put bit32Cells)).modify 1 (put bit64Cells)).modify 2 (put conCells)).modify 3 (put conCells)}
end Go.Proofs.YthelhoikbegjlaaDoor
