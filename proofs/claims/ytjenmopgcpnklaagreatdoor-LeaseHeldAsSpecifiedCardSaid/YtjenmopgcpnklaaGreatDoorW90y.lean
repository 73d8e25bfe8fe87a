/-
  What the claims of this chapter share: the tables, and a world that holds them. No condition.
-/
import Derived.Test.YtjenmopgcpnklaaGreatDoorW90G3x3
import Derived.Test.YtjenmopgcpnklaaGreatDoorCards
import Derived.Test.YtjenmopgcpnklaaGreatDoorTie
import Derived.ProofKit
import Derived.OpenShut
import Derived.Deep.DeepHandedRow
import Derived.Lib.LaidTab
import Derived.MakeChecks
set_option linter.unusedVariables false
set_option linter.unusedSimpArgs false
set_option linter.unusedSectionVars false
namespace Go.Proofs.YtjenmopgcpnklaaGreatDoor
open Go Go.Ev Go.Proofs Go.ChangeShapes Go.WideShapes Go.ChangeAt Go.RowKit
theorem own :ownKnob Tryz.prog.godebug=none:=by kernel_rfl
theorem gCon :Tryz.prog.globalNamed "weirgate/hash.constants" =some 0:=by kernel_rfl
theorem gRef :Tryz.prog.globalNamed "weirgate/weirgateref02.constants" =some 1:=by kernel_rfl
theorem gConT :(Tryz.prog.globals[0]?).map (·.type)=some 149:=by kernel_rfl
theorem gRefT :(Tryz.prog.globals[1]?).map (·.type)=some 149:=by kernel_rfl
theorem kCon :kdOf Tryz.prog 8 149=some (.ar 64 (.int .u32)):=by kernel_rfl
theorem avCon :AV.agg S90.kA=avD (H:=Unit) (.ar 64 (.int .u32)) Rows.laid_weirgate_hash_constants:=by kernel_rfl
theorem avRef :AV.agg S90.kA=avD (H:=Unit) (.ar 64 (.int .u32)) Rows.laid_weirgate_weirgateref02_constants:=by kernel_rfl
theorem laidOk :laidOutB Tryz.prog=true:=by kernel_rfl
abbrev laid2 :List (String×DataW Unit):=[("weirgate/weirgateref02.constants",Rows.laid_weirgate_weirgateref02_constants),("weirgate/hash.constants",Rows.laid_weirgate_hash_constants)]
theorem glOk2 {W:World}(h:laidMetH Tryz.prog laid2 W):TabOk W.heap S90.glS:=by
 have h:laidMet Tryz.prog laid2 W:=h
 refine glOk_laid h fun g sh a hg=> ?_
 match g,hg with
 | 0,hg =>
   obtain⟨rfl,rfl⟩:=Prod.mk.inj (Option.some.inj hg)
   exact⟨_,List.mem_cons_of_mem _ List.mem_cons_self,8,149,_,gCon,gConT,kCon,rfl,avCon⟩
 | 1,hg =>
   obtain⟨rfl,rfl⟩:=Prod.mk.inj (Option.some.inj hg)
   exact⟨_,List.mem_cons_self,8,149,_,gRef,gRefT,kCon,rfl,avRef⟩
 | _+2,hg=>cases hg
theorem glHasK :Nonempty (S90.H.GlK S90.glS):=⟨⟨rfl⟩⟩
theorem glHasR :Nonempty (S90.H.GlR S90.glS):=⟨⟨rfl⟩⟩
theorem fnOk_tbl {P:Program}{t t':Nat->Option (Sh×AV)}{ri:Nat->Option RInfo}{f:Nat}{fd:Ev.Fd}(h:FnOk P ⟨t,ri⟩ f fd):FnOk P ⟨t',ri⟩ f fd:=by
 cases h with
 | code h hlt ok=>exact .code h hlt ⟨ok.ok⟩
 | given g h hlt ok=>exact .given g h hlt ok
 | round rid ps sl ma mb hf h ok=>exact .round rid ps sl ma mb hf h ⟨ok.ok⟩
 | dfr D h hlt ok =>
   obtain⟨fn,codes,id,ops,cB,an,im,o,c,h1,h2,h3,h4,h5,h6,h7,h8,h9,h10,h11,h12,h13,h14,h15,h16,h17,fc⟩:=ok.ok
   exact .dfr D h hlt ⟨fn,codes,id,ops,cB,an,im,o,c,h1,h2,h3,h4,h5,h6,h7,h8,h9,h10,h11,h12,h13,h14,h15,h16,h17,⟨fc.ok⟩⟩
noncomputable def gl1:Gl:=⟨fun g=>match g with|0=>some (.ar 64 .sc,.agg S90.kA)|_=>none,S90.ri⟩
theorem tab1_ok :∀f fd,S90.tab f=some fd->FnOk Tryz.prog gl1 f fd:=fun f fd h=>fnOk_tbl (S90.tab_ok f fd h)
theorem glHas1 :Nonempty (S90.H.GlK gl1):=⟨⟨rfl⟩⟩
abbrev laid1 :List (String×DataW Unit):=[("weirgate/hash.constants",Rows.laid_weirgate_hash_constants)]
theorem glOk1 {W:World}(h:laidMetH Tryz.prog laid1 W):TabOk W.heap gl1:=by
 have h:laidMet Tryz.prog laid1 W:=h
 refine glOk_laid h fun g sh a hg=> ?_
 match g,hg with
 | 0,hg =>
   obtain⟨rfl,rfl⟩:=Prod.mk.inj (Option.some.inj hg)
   exact⟨_,List.mem_cons_self,8,149,_,gCon,gConT,kCon,rfl,avCon⟩
 | _+1,hg=>cases hg
def conCells :Array Value:=(S90.kList.map fun x=>Value.int .u32 (x.toNat:Int)).toArray
def put (vs:Array Value):Obj->Obj
 | .cells _ t frozen=>.cells vs t frozen
 | o=>o
noncomputable def laidWorld (os:Os):World :=
 {World.holding Tryz.prog os ⟨#[],#[],[]⟩with heap:=((World.holding Tryz.prog os ⟨#[],#[],[]⟩).heap.modify 0 (put conCells)).modify 1 (put conCells)}
end Go.Proofs.YtjenmopgcpnklaaGreatDoor
