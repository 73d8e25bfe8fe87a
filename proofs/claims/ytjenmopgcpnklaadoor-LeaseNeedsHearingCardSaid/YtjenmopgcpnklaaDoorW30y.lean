/-
  What the claims of this chapter share: the tables, and a world that holds them. No condition.
-/
import Derived.Test.YtjenmopgcpnklaaDoorW30G2x4
import Derived.Test.YtjenmopgcpnklaaDoorCards
import Derived.Test.YtjenmopgcpnklaaDoorTie
import Derived.ProofKit
import Derived.OpenShut
import Derived.Deep.DeepHandedRow
import Derived.Lib.LaidTab
import Derived.MakeChecks
set_option linter.unusedVariables false
set_option linter.unusedSimpArgs false
set_option linter.unusedSectionVars false
namespace Go.Proofs.YtjenmopgcpnklaaDoor
open Go Go.Ev Go.Proofs Go.ChangeShapes Go.WideShapes Go.ChangeAt Go.RowKit
theorem own :ownKnob Tryd.prog.godebug=none:=by kernel_rfl
theorem gCon :Tryd.prog.globalNamed "weirgate/hash.constants" =some 1:=by kernel_rfl
theorem gRef :Tryd.prog.globalNamed "weirgate/weirgateref02.constants" =some 0:=by kernel_rfl
theorem gConT :(Tryd.prog.globals[1]?).map (·.type)=some 165:=by kernel_rfl
theorem gRefT :(Tryd.prog.globals[0]?).map (·.type)=some 165:=by kernel_rfl
theorem kCon :kdOf Tryd.prog 8 165=some (.ar 64 (.int .u32)):=by kernel_rfl
theorem avCon :AV.agg S30.kA=avD (H:=Unit) (.ar 64 (.int .u32)) Rows.laid_weirgate_hash_constants:=by kernel_rfl
theorem avRef :AV.agg S30.kA=avD (H:=Unit) (.ar 64 (.int .u32)) Rows.laid_weirgate_weirgateref02_constants:=by kernel_rfl
theorem laidOk :laidOutB Tryd.prog=true:=by kernel_rfl
abbrev laid2 :List (String×DataW Unit):=[("weirgate/weirgateref02.constants",Rows.laid_weirgate_weirgateref02_constants),("weirgate/hash.constants",Rows.laid_weirgate_hash_constants)]
theorem glOk2 {W:World}(h:laidMetH Tryd.prog laid2 W):TabOk W.heap S30.glS:=by
 have h:laidMet Tryd.prog laid2 W:=h
 refine glOk_laid h fun g sh a hg=> ?_
 match g,hg with
 | 0,hg =>
   obtain⟨rfl,rfl⟩:=Prod.mk.inj (Option.some.inj hg)
   exact⟨_,List.mem_cons_self,8,165,_,gRef,gRefT,kCon,rfl,avRef⟩
 | 1,hg =>
   obtain⟨rfl,rfl⟩:=Prod.mk.inj (Option.some.inj hg)
   exact⟨_,List.mem_cons_of_mem _ List.mem_cons_self,8,165,_,gCon,gConT,kCon,rfl,avCon⟩
 | _+2,hg=>cases hg
theorem glHasK :Nonempty (S30.H.GlK S30.glS):=⟨⟨rfl⟩⟩
theorem glHasR :Nonempty (S30.H.GlR S30.glS):=⟨⟨rfl⟩⟩
theorem fnOk_tbl {P:Program}{t t':Nat->Option (Sh×AV)}{ri:Nat->Option RInfo}{f:Nat}{fd:Ev.Fd}(h:FnOk P ⟨t,ri⟩ f fd):FnOk P ⟨t',ri⟩ f fd:=by
 cases h with
 | code h hlt ok=>exact .code h hlt ⟨ok.ok⟩
 | given g h hlt ok=>exact .given g h hlt ok
 | round rid ps sl ma mb hf h ok=>exact .round rid ps sl ma mb hf h ⟨ok.ok⟩
 | dfr D h hlt ok =>
   obtain⟨fn,codes,id,ops,cB,an,im,o,c,h1,h2,h3,h4,h5,h6,h7,h8,h9,h10,h11,h12,h13,h14,h15,h16,h17,fc⟩:=ok.ok
   exact .dfr D h hlt ⟨fn,codes,id,ops,cB,an,im,o,c,h1,h2,h3,h4,h5,h6,h7,h8,h9,h10,h11,h12,h13,h14,h15,h16,h17,⟨fc.ok⟩⟩
noncomputable def gl1:Gl:=⟨fun g=>match g with|1=>some (.ar 64 .sc,.agg S30.kA)|_=>none,S30.ri⟩
theorem tab1_ok :∀f fd,S30.tab f=some fd->FnOk Tryd.prog gl1 f fd:=fun f fd h=>fnOk_tbl (S30.tab_ok f fd h)
theorem glHas1 :Nonempty (S30.H.GlK gl1):=⟨⟨rfl⟩⟩
abbrev laid1 :List (String×DataW Unit):=[("weirgate/hash.constants",Rows.laid_weirgate_hash_constants)]
theorem glOk1 {W:World}(h:laidMetH Tryd.prog laid1 W):TabOk W.heap gl1:=by
 have h:laidMet Tryd.prog laid1 W:=h
 refine glOk_laid h fun g sh a hg=> ?_
 match g,hg with
 | 0,hg=>cases hg
 | 1,hg =>
   obtain⟨rfl,rfl⟩:=Prod.mk.inj (Option.some.inj hg)
   exact⟨_,List.mem_cons_self,8,165,_,gCon,gConT,kCon,rfl,avCon⟩
 | _+2,hg=>cases hg
def conCells :Array Value:=(S30.kList.map fun x=>Value.int .u32 (x.toNat:Int)).toArray
def put (vs:Array Value):Obj->Obj
 | .cells _ t frozen=>.cells vs t frozen
 | o=>o
noncomputable def laidWorld (os:Os):World :=
 {World.holding Tryd.prog os ⟨#[],#[],[]⟩with heap:=((World.holding Tryd.prog os ⟨#[],#[],[]⟩).heap.modify 0 (put conCells)).modify 1 (put conCells)}
end Go.Proofs.YtjenmopgcpnklaaDoor
