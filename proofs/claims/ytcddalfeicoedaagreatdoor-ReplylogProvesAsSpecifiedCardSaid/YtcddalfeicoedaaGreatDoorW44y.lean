/-
  What the claims of this chapter share: the tables, and a world that holds them. No condition.
-/
import Derived.Test.YtcddalfeicoedaaGreatDoorW44G16x6
import Derived.Test.YtcddalfeicoedaaGreatDoorW44G5x6
import Derived.Test.YtcddalfeicoedaaGreatDoorCards
import Derived.Test.YtcddalfeicoedaaGreatDoorTie
import Derived.ProofKit
import Derived.OpenShut
import Derived.Deep.DeepHandedRow
import Derived.Lib.LaidTab
import Derived.MakeChecks
set_option linter.all false
open List renaming mem_cons_of_mem->wA,mem_cons_self->wB
namespace Go.Proofs.YtcddalfeicoedaaGreatDoor
open Go Go.Ev Go.Proofs Go.ChangeShapes Go.WideShapes Go.ChangeAt Go.RowKit
theorem own :ownKnob Tryz.prog.godebug=none:=by kernel_rfl
theorem gBit :Tryz.prog.globalNamed "math/bits.deBruijn64tab" =some 1:=by kernel_rfl
theorem gCon :Tryz.prog.globalNamed "weirgate/hash.constants" =some 2:=by kernel_rfl
theorem gRef :Tryz.prog.globalNamed "weirgate/weirgateref02.constants" =some 3:=by kernel_rfl
theorem qlq :(Tryz.prog.globals[1]?).map (·.type)=some 189:=by kernel_rfl
theorem qlp :(Tryz.prog.globals[2]?).map (·.type)=some 226:=by kernel_rfl
theorem qlo :(Tryz.prog.globals[3]?).map (·.type)=some 226:=by kernel_rfl
theorem kBit :kdOf Tryz.prog 8 189=some (.ar 64 (.int .u8)):=by kernel_rfl
theorem kCon :kdOf Tryz.prog 8 226=some (.ar 64 (.int .u32)):=by kernel_rfl
theorem qmb :AV.agg (zac S44.M.dbl)=avD (H:=Unit) (.ar 64 (.int .u8)) Rows.laid_math_bits_deBruijn64tab:=by kernel_rfl
theorem qma :AV.agg S44.kA=avD (H:=Unit) (.ar 64 (.int .u32)) Rows.laid_weirgate_hash_constants:=by kernel_rfl
theorem ql9 :AV.agg S44.kA=avD (H:=Unit) (.ar 64 (.int .u32)) Rows.laid_weirgate_weirgateref02_constants:=by kernel_rfl
theorem qfc :laidOutB Tryz.prog=true:=by kernel_rfl
theorem z5u {P:Program}{t t':Nat->Option (Sh×AV)}{ri:Nat->Option RInfo}{f:Nat}{fd:Ev.Fd}(h:FnOk P ⟨t,ri⟩ f fd):FnOk P ⟨t',ri⟩ f fd:=by
 cases h with
 | code h hlt ok=>exact .code h hlt ⟨ok.ok⟩
 | given g h hlt ok=>exact .given g h hlt ok
 | round rid ps sl ma mb hf h ok=>exact .round rid ps sl ma mb hf h ⟨ok.ok⟩
 | dfr D h hlt ok =>
   obtain⟨fn,codes,id,ops,cB,an,im,o,c,h1,h2,h3,h4,h5,h6,h7,h8,h9,h10,h11,h12,h13,h14,h15,h16,h17,fc⟩:=ok.ok
   exact .dfr D h hlt ⟨fn,codes,id,ops,cB,an,im,o,c,h1,h2,h3,h4,h5,h6,h7,h8,h9,h10,h11,h12,h13,h14,h15,h16,h17,⟨fc.ok⟩⟩
noncomputable def gl3:Gl:=⟨fun g=>match g with|1=>some (.ar 64 .sc,.agg (zac S44.M.dbl))|2=>some (.ar 64 .sc,.agg S44.kA)|3=>some (.ar 64 .sc,.agg S44.kA)|_=>none,S44.ri⟩
theorem z9b :∀f fd,S44.tab f=some fd->FnOk Tryz.prog gl3 f fd:=fun f fd h=>z5u (S44.tab_ok f fd h)
theorem qf2 :Nonempty (S44.H.GlK gl3):=⟨⟨rfl⟩⟩
theorem qf1 :Nonempty (S44.H.GlR gl3):=⟨⟨rfl⟩⟩
theorem qf3 :Nonempty (S44.M.GlB gl3):=⟨⟨rfl⟩⟩
abbrev qfd :List (String×DataW Unit):=[("math/bits.deBruijn32tab",Rows.laid_math_bits_deBruijn32tab),("math/bits.deBruijn64tab",Rows.laid_math_bits_deBruijn64tab),("weirgate/weirgateref02.constants",Rows.laid_weirgate_weirgateref02_constants),("weirgate/hash.constants",Rows.laid_weirgate_hash_constants)]
theorem qln {W:World}(h:laidMetH Tryz.prog qfd W):TabOk W.heap gl3:=by
 have h:laidMet Tryz.prog qfd W:=h
 refine z10 h fun g sh a hg=> ?_
 match g,hg with
 | 0,hg=>cases hg
 | 1,hg =>
   obtain⟨rfl,rfl⟩:=Prod.mk.inj (Option.some.inj hg)
   exact⟨_,wA _ wB,8,189,_,gBit,qlq,kBit,rfl,qmb⟩
 | 2,hg =>
   obtain⟨rfl,rfl⟩:=Prod.mk.inj (Option.some.inj hg)
   exact⟨_,wA _ (wA _ (wA _ wB)),8,226,_,gCon,qlp,kCon,rfl,qma⟩
 | 3,hg =>
   obtain⟨rfl,rfl⟩:=Prod.mk.inj (Option.some.inj hg)
   exact⟨_,wA _ (wA _ wB),8,226,_,gRef,qlo,kCon,rfl,ql9⟩
 | _+4,hg=>cases hg
def zvy :Array Value:=(S44.kList.map fun x=>Value.int .u32 (x.toNat:Int)).toArray
def zyq :Array Value:=([0,1,28,2,29,14,24,3,30,22,20,15,25,17,4,8,31,27,13,23,21,19,16,7,26,12,18,6,11,5,10,9]:List Int).map (fun x=>Value.int .u8 x) |>.toArray
def zyp :Array Value:=(S44.M.dbl.map fun x=>Value.int .u8 (x.toNat:Int)).toArray
def put (vs:Array Value):Obj->Obj
 | .cells _ t frozen=>.cells vs t frozen
 | o=>o
noncomputable def zmh (os:Os):World :=
 {World.holding Tryz.prog os ⟨#[],#[],[]⟩with heap:=((((World.holding Tryz.prog os ⟨#[],#[],[]⟩).heap.modify 0 (put zyq)).modify 1 (put zyp)).modify 2 (put zvy)).modify 3 (put zvy)}
end Go.Proofs.YtcddalfeicoedaaGreatDoor
