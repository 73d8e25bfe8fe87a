/-
  Chapter 30: what a lease is worth is exact. No condition.
-/
import Derived.Test.YtjenmopgcpnklaaDoorW30G22x6
import Derived.Test.YtjenmopgcpnklaaDoorW30G2x6
import Derived.Test.YtjenmopgcpnklaaDoorCards
import Derived.Test.YtjenmopgcpnklaaDoorTie
import Derived.ProofKit
import Derived.OpenShut
import Derived.Deep.DeepHandedRow
import Derived.Lib.LaidTab
import Derived.MakeChecks
set_option linter.unusedVariables false
set_option linter.unusedSimpArgs false
set_option linter.unusedSectionVars false
namespace Go.Proofs.S30.G
open Go Go.Ev Go.Proofs Go.Ck
open Go.Proofs.S30.H (GlK GlR)
variable {gl :Gl} {n:Nat}
theorem wth_iff {l b d T:Nat}{loc later:Int}(h1:(l:Int)<=loc)(h3:0<=later){j:Nat}(hj:(j:Int)=loc+later-l) :
  j<lateN b d T (2199023255553-l)↔later<wthN l b d T loc:=by
 unfold wthN untN
 generalize lateN b d T (2199023255553-l)=U
 by_cases hu:U=0
 . subst hu;rw[if_pos rfl];split<;>omega
 . rw[if_neg hu];split<;>omega
theorem wth_0 {l b d:Nat}{loc:Int}(hl:l<=2199023255552)(h1:(l:Int)<=loc):wthN l b d 0 loc=0:=by
 have hu:lateN b d 0 (2199023255553-l)=0:=by
  have:=@lateN_iff b d 0 (2199023255553-l) 0 (by omega)
  simp[ear]at this
  omega
 unfold wthN untN
 rw[if_pos hu];split<;>omega
theorem ms_iff {x:Hd}(hv:HV x){T:Nat}(hT:x.le.til=T){c:Cl}{l a b d:Nat}(hc:CN c l a b d)(j:Nat) :
  decide (MS x (loN a d j) (hiN b d j))=ear b d T j:=by
 have h1:=lo_le_hi hc.ab hc.d1 j
 have h2:hiN b d j<=1099511627776:=by unfold hiN;exact Nat.min_le_right _ _
 unfold ear
 exact decide_eq_decide.2 ⟨fun h=>by have:=h.2.2;rw[hT]at this;omega,fun h=>⟨hv,⟨by omega,by omega,by omega⟩,by rw[hT];omega⟩⟩
set_option maxHeartbeats 1000000 in
theorem law6 [Nonempty (GlK gl)](hn:20<=n)(ar:List AV)(h:HasKds [kHe,kCl,kI,kI] ar):call gl tab (n+1) 6 ar []=some (.bool true,[],[]):=by
 simp only[HasKds]at h
 obtain⟨_,_,rfl,h1,_,_,rfl,h2,_,_,rfl,h3,_,_,rfl,h4,rfl⟩:=h
 obtain⟨x,rfl,hx⟩:=kd_he h1
 obtain⟨c,rfl⟩:=kd_cl h2
 obtain⟨loc,rfl,r1⟩:=kd_i h3
 obtain⟨later,rfl,r2⟩:=kd_i h4
 clear h1 h2 h3 h4
 have c7:=@sanity_at gl n _ hn
 have q0:=H.bytes_all x.le.sgn
 have hs:=hx.s
 rw[call_go (fd:=fd6) rfl]
 by_cases g:HV x/\CK c/\c.l<=loc/\loc<=2199023255552
 case neg =>
  have w:=@worth_bad gl n (by omega) x hs c loc g
  simp(disch:=((fail_if_success (intro _));omega)) only[go_sem,simprocAttr,↓reduceIte,↓Nat.reduceEqDiff,xx,fd6,m6,c7,hs,q0,w]
 obtain⟨hv,hk,h1,h2⟩:=g
 obtain⟨l,a,b,d,hc⟩:=hk.nat
 obtain⟨T,hT⟩:∃T:Nat,x.le.til=T:=⟨x.le.til.toNat,by have:=hv.2.2.1;omega⟩
 have w:=@worth_ok gl n (by omega) x hs hv T hT c l a b d hk hc loc h1 h2
 have hl:=hc.l1
 have el:=hc.el
 have e0:(if T=0 then 0 else wthN l b d T loc)=wthN l b d T loc:=by
  by_cases hz:T=0
  . subst hz;rw[if_pos rfl,wth_0 hl (by omega)]
  . rw[if_neg hz]
 rw[e0]at w
 by_cases g1:loc<=1099511627776
 case neg=>generalize wthN l b d T loc=m at *;simp(disch:=((fail_if_success (intro _));omega)) only[go_sem,simprocAttr,↓reduceIte,↓Nat.reduceEqDiff,xx,fd6,m6,c7,hs,q0,w]
 by_cases g2:0<=later
 case neg=>generalize wthN l b d T loc=m at *;simp(disch:=((fail_if_success (intro _));omega)) only[go_sem,simprocAttr,↓reduceIte,↓Nat.reduceEqDiff,xx,fd6,m6,c7,hs,q0,w]
 by_cases g3:later<=1099511627776
 case neg=>generalize wthN l b d T loc=m at *;simp(disch:=((fail_if_success (intro _));omega)) only[go_sem,simprocAttr,↓reduceIte,↓Nat.reduceEqDiff,xx,fd6,m6,c7,hs,q0,w]
 obtain⟨j,hj⟩:∃j:Nat,(j:Int)=loc+later-l:=⟨(loc+later-l).toNat,by omega⟩
 have ra:=@read_at gl n (by omega) c l a b d hc j (by omega)
 rw[show((l+j:Nat):Int)=loc+later by omega]at ra
 have sa:=@serve_at gl n (by omega) x hs (loN a d j) (hiN b d j)
 rw[ms_iff hv hT hc j]at sa
 have i1:=@wth_iff l b d T loc later (by omega) g2 j hj
 have i0:=@lateN_iff b d T (2199023255553-l) j (by omega)
 have eb:ear b d T j=decide (later<wthN l b d T loc):=by rw[Bool.eq_iff_iff,decide_eq_true_eq];exact i0.trans i1
 rw[eb]at sa
 clear i1 i0 eb
 have hw0:0<=wthN l b d T loc:=by unfold wthN;split<;>omega
 by_cases g4:wthN l b d T loc=0
 . rw[g4]at w sa
   rw[decide_eq_false (by omega)]at sa
   generalize ((loN a d j:Nat):Int)=lo at *
   generalize ((hiN b d j:Nat):Int)=hi at *
   simp(implicitDefEqProofs:=false) (disch:=((fail_if_success (intro _));omega)) only[go_sem,simprocAttr,↓reduceIte,↓Nat.reduceEqDiff,xx,fd6,m6,c7,hs,q0,w,ra,sa]
 by_cases g5:wthN l b d T loc<=1099511627776
 case neg =>
  have hb:(wthN l b d T loc==0)=false:=by rw[beq_eq_false_iff_ne];exact g4
  rw[decide_eq_true (by omega)]at sa
  generalize wthN l b d T loc=m at *
  generalize ((loN a d j:Nat):Int)=lo at *
  generalize ((hiN b d j:Nat):Int)=hi at *
  simp(implicitDefEqProofs:=false) (disch:=((fail_if_success (intro _));omega)) only[go_sem,simprocAttr,↓reduceIte,↓Nat.reduceEqDiff,xx,fd6,m6,c7,hs,q0,w,ra,sa,hb]
 have hb:(wthN l b d T loc==0)=false:=by rw[beq_eq_false_iff_ne];exact g4
 obtain⟨j1,hj1⟩:∃j:Nat,(j:Int)=loc+(wthN l b d T loc-1)-l:=⟨(loc+(wthN l b d T loc-1)-l).toNat,by omega⟩
 obtain⟨j2,hj2⟩:∃j:Nat,(j:Int)=loc+wthN l b d T loc-l:=⟨(loc+wthN l b d T loc-l).toNat,by omega⟩
 have k1:=(@wth_iff l b d T loc (wthN l b d T loc-1) (by omega) (by omega) j1 hj1).2 (by omega)
 have k2:¬j2<lateN b d T (2199023255553-l):=fun h=>by
  have:=(@wth_iff l b d T loc (wthN l b d T loc) (by omega) (by omega) j2 hj2).1 h;omega
 have m1:=(@lateN_iff b d T (2199023255553-l) j1 (by omega)).2 k1
 have m2:ear b d T j2=false:=by rw[Bool.eq_false_iff];exact fun h=>k2 ((@lateN_iff b d T (2199023255553-l) j2 (by omega)).1 h)
 have rb:=@read_at gl n (by omega) c l a b d hc j1 (by omega)
 have rc:=@read_at gl n (by omega) c l a b d hc j2 (by omega)
 rw[show((l+j1:Nat):Int)=loc+wthN l b d T loc-1 by omega]at rb
 rw[show((l+j2:Nat):Int)=loc+wthN l b d T loc by omega]at rc
 have sb:=@serve_at gl n (by omega) x hs (loN a d j1) (hiN b d j1)
 have sc:=@serve_at gl n (by omega) x hs (loN a d j2) (hiN b d j2)
 rw[ms_iff hv hT hc j1,m1]at sb
 rw[ms_iff hv hT hc j2,m2]at sc
 clear k1 k2 m1 m2 hj1 hj2 e0
 generalize wthN l b d T loc=m at *
 generalize ((loN a d j:Nat):Int)=lo at *
 generalize ((hiN b d j:Nat):Int)=hi at *
 generalize ((loN a d j1:Nat):Int)=lo1 at *
 generalize ((hiN b d j1:Nat):Int)=hi1 at *
 generalize ((loN a d j2:Nat):Int)=lo2 at *
 generalize ((hiN b d j2:Nat):Int)=hi2 at *
 by_cases g6:later<m
 . rw[decide_eq_true g6]at sa
   simp(implicitDefEqProofs:=false) (disch:=((fail_if_success (intro _));omega)) only[go_sem,simprocAttr,↓reduceIte,↓Nat.reduceEqDiff,xx,fd6,m6,c7,hs,q0,w,ra,sa,hb,rb,rc,sb,sc]
 . rw[decide_eq_false g6]at sa
   simp(implicitDefEqProofs:=false) (disch:=((fail_if_success (intro _));omega)) only[go_sem,simprocAttr,↓reduceIte,↓Nat.reduceEqDiff,xx,fd6,m6,c7,hs,q0,w,ra,sa,hb,rb,rc,sb,sc]
end Go.Proofs.S30.G
namespace Go.Proofs.YtjenmopgcpnklaaDoor
open Go Go.Ev Go.Proofs Go.ChangeShapes Go.WideShapes Go.ChangeAt Go.RowKit
theorem own :ownKnob Tryd.prog.godebug=none:=by kernel_rfl
theorem gCon :Tryd.prog.globalNamed "weirgate/hash.constants" =some 1:=by kernel_rfl
theorem gRef :Tryd.prog.globalNamed "weirgate/weirgateref02.constants" =some 0:=by kernel_rfl
theorem gConT :(Tryd.prog.globals[1]?).map (·.type)=some 165:=by kernel_rfl
theorem gRefT :(Tryd.prog.globals[0]?).map (·.type)=some 165:=by kernel_rfl
theorem kCon :kdOf Tryd.prog 8 165=some (.ar 64 (.int .u32)):=by kernel_rfl
theorem avCon :AV.agg S30.kA=avD (H:=Unit) (.ar 64 (.int .u32)) Rows.laid_weirgate_hash_constants:=by kernel_rfl
theorem avRef :AV.agg S30.kA=avD (H:=Unit) (.ar 64 (.int .u32)) Rows.laid_weirgate_weirgateref02_constants:=by kernel_rfl
theorem laidOk :laidOutB Tryd.prog=true:=by kernel_rfl
abbrev laid2 :List (String×DataW Unit):=[("weirgate/weirgateref02.constants",Rows.laid_weirgate_weirgateref02_constants),("weirgate/hash.constants",Rows.laid_weirgate_hash_constants)]
theorem glOk2 {W:World}(h:laidMetH Tryd.prog laid2 W):TabOk W.heap S30.glS:=by
 have h:laidMet Tryd.prog laid2 W:=h
 refine glOk_laid h fun g sh a hg=> ?_
 match g,hg with
 | 0,hg =>
   obtain⟨rfl,rfl⟩:=Prod.mk.inj (Option.some.inj hg)
   exact⟨_,List.mem_cons_self,8,165,_,gRef,gRefT,kCon,rfl,avRef⟩
 | 1,hg =>
   obtain⟨rfl,rfl⟩:=Prod.mk.inj (Option.some.inj hg)
   exact⟨_,List.mem_cons_of_mem _ List.mem_cons_self,8,165,_,gCon,gConT,kCon,rfl,avCon⟩
 | _+2,hg=>cases hg
theorem glHasK :Nonempty (S30.H.GlK S30.glS):=⟨⟨rfl⟩⟩
theorem glHasR :Nonempty (S30.H.GlR S30.glS):=⟨⟨rfl⟩⟩
theorem fnOk_tbl {P:Program}{t t':Nat->Option (Sh×AV)}{ri:Nat->Option RInfo}{f:Nat}{fd:Ev.Fd}(h:FnOk P ⟨t,ri⟩ f fd):FnOk P ⟨t',ri⟩ f fd:=by
 cases h with
 | code h hlt ok=>exact .code h hlt ⟨ok.ok⟩
 | given g h hlt ok=>exact .given g h hlt ok
 | round rid ps sl ma mb hf h ok=>exact .round rid ps sl ma mb hf h ⟨ok.ok⟩
 | dfr D h hlt ok =>
   obtain⟨fn,codes,id,ops,cB,an,im,o,c,h1,h2,h3,h4,h5,h6,h7,h8,h9,h10,h11,h12,h13,h14,h15,h16,h17,fc⟩:=ok.ok
   exact .dfr D h hlt ⟨fn,codes,id,ops,cB,an,im,o,c,h1,h2,h3,h4,h5,h6,h7,h8,h9,h10,h11,h12,h13,h14,h15,h16,h17,⟨fc.ok⟩⟩
noncomputable def gl1:Gl:=⟨fun g=>match g with|1=>some (.ar 64 .sc,.agg S30.kA)|_=>none,S30.ri⟩
theorem tab1_ok :∀f fd,S30.tab f=some fd->FnOk Tryd.prog gl1 f fd:=fun f fd h=>fnOk_tbl (S30.tab_ok f fd h)
theorem glHas1 :Nonempty (S30.H.GlK gl1):=⟨⟨rfl⟩⟩
abbrev laid1 :List (String×DataW Unit):=[("weirgate/hash.constants",Rows.laid_weirgate_hash_constants)]
theorem glOk1 {W:World}(h:laidMetH Tryd.prog laid1 W):TabOk W.heap gl1:=by
 have h:laidMet Tryd.prog laid1 W:=h
 refine glOk_laid h fun g sh a hg=> ?_
 match g,hg with
 | 0,hg=>cases hg
 | 1,hg =>
   obtain⟨rfl,rfl⟩:=Prod.mk.inj (Option.some.inj hg)
   exact⟨_,List.mem_cons_self,8,165,_,gCon,gConT,kCon,rfl,avCon⟩
 | _+2,hg=>cases hg
def conCells :Array Value:=(S30.kList.map fun x=>Value.int .u32 (x.toNat:Int)).toArray
def put (vs:Array Value):Obj->Obj
 | .cells _ t frozen=>.cells vs t frozen
 | o=>o
noncomputable def laidWorld (os:Os):World :=
 {World.holding Tryd.prog os ⟨#[],#[],[]⟩with heap:=((World.holding Tryd.prog os ⟨#[],#[],[]⟩).heap.modify 0 (put conCells)).modify 1 (put conCells)}
end Go.Proofs.YtjenmopgcpnklaaDoor
