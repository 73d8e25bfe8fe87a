/-
  What the claims of this chapter share: the tables, and a world that holds them. No condition.
-/
import Derived.Test.YthipjfnealbheaaDoorW17G6x3
import Derived.Test.YthipjfnealbheaaDoorCards
import Derived.Test.YthipjfnealbheaaDoorTie
import Derived.ProofKit
import Derived.OpenShut
import Derived.Deep.DeepHandedRow
import Derived.Lib.LaidTab
import Derived.MakeChecks
set_option linter.all false
namespace Go.Proofs.YthipjfnealbheaaDoor
open Go Go.Ev Go.Proofs Go.ChangeShapes Go.WideShapes Go.ChangeAt Go.RowKit
theorem own :ownKnob Tryd.prog.godebug=none:=by kernel_rfl
theorem gCon :Tryd.prog.globalNamed "weirgate/hash.constants" =some 0:=by kernel_rfl
theorem qg6 :(Tryd.prog.globals[0]?).map (·.type)=some 148:=by kernel_rfl
theorem kCon :kdOf Tryd.prog 8 148=some (.ar 64 (.int .u32)):=by kernel_rfl
theorem qhk :AV.agg S17.kA=avD (H:=Unit) (.ar 64 (.int .u32)) Rows.laid_weirgate_hash_constants:=by kernel_rfl
theorem qdv :laidOutB Tryd.prog=true:=by kernel_rfl
theorem z46 {P:Program}{t t':Nat->Option (Sh×AV)}{ri:Nat->Option RInfo}{f:Nat}{fd:Ev.Fd}(h:FnOk P ⟨t,ri⟩ f fd):FnOk P ⟨t',ri⟩ f fd:=by
 cases h with
 | code h hlt ok=>exact .code h hlt ⟨ok.ok⟩
 | given g h hlt ok=>exact .given g h hlt ok
 | round rid ps sl ma mb hf h ok=>exact .round rid ps sl ma mb hf h ⟨ok.ok⟩
 | dfr D h hlt ok =>
   obtain⟨fn,codes,id,ops,cB,an,im,o,c,h1,h2,h3,h4,h5,h6,h7,h8,h9,h10,h11,h12,h13,h14,h15,h16,h17,fc⟩:=ok.ok
   exact .dfr D h hlt ⟨fn,codes,id,ops,cB,an,im,o,c,h1,h2,h3,h4,h5,h6,h7,h8,h9,h10,h11,h12,h13,h14,h15,h16,h17,⟨fc.ok⟩⟩
noncomputable def gl1:Gl:=⟨fun g=>match g with|0=>some (.ar 64 .sc,.agg S17.kA)|_=>none,S17.ri⟩
theorem z7t :∀f fd,S17.tab f=some fd->FnOk Tryd.prog gl1 f fd:=fun f fd h=>z46 (S17.tab_ok f fd h)
theorem qer :Nonempty (S17.H.GlK gl1):=⟨⟨rfl⟩⟩
abbrev qdw :List (String×DataW Unit):=[("weirgate/hash.constants",Rows.laid_weirgate_hash_constants)]
theorem qg5 {W:World}(h:laidMetH Tryd.prog qdw W):TabOk W.heap gl1:=by
 have h:laidMet Tryd.prog qdw W:=h
 refine z0y h fun g sh a hg=> ?_
 match g,hg with
 | 0,hg =>
   obtain⟨rfl,rfl⟩:=Prod.mk.inj (Option.some.inj hg)
   exact⟨_,List.mem_cons_self,8,148,_,gCon,qg6,kCon,rfl,qhk⟩
 | _+1,hg=>cases hg
def z5w :Array Value:=(S17.kList.map fun x=>Value.int .u32 (x.toNat:Int)).toArray
def put (vs:Array Value):Obj->Obj
 | .cells _ t frozen=>.cells vs t frozen
 | o=>o
noncomputable def zlh (os:Os):World :=
 {World.holding Tryd.prog os ⟨#[],#[],[]⟩with heap:=(World.holding Tryd.prog os ⟨#[],#[],[]⟩).heap.modify 0 (put z5w)}
end Go.Proofs.YthipjfnealbheaaDoor
