/-
  Chapter 44: the law on what is written. No condition.
-/
import Derived.Test.YtcddalfeicoedaaGreatDoorW44G24x5
import Derived.Test.YtcddalfeicoedaaGreatDoorW44G19x5
import Derived.Test.YtcddalfeicoedaaGreatDoorW44G6x5
import Derived.Test.YtcddalfeicoedaaGreatDoorCards
import Derived.Test.YtcddalfeicoedaaGreatDoorTie
import Derived.ProofKit
import Derived.OpenShut
import Derived.Deep.DeepHandedRow
import Derived.Lib.LaidTab
import Derived.MakeChecks
set_option linter.unusedVariables false
set_option linter.unusedSimpArgs false
set_option linter.unusedSectionVars false
namespace Go.Proofs.S44.L
open Go Go.Ev Go.Proofs Go.Proofs.S44
open Go.Proofs.S44.H (strsAV strsAV_length strsAV_get Sml GlK GlR zints Few64 nsI nsI_length nsI_get dig inp)
variable {gl :Gl} {n:Nat}
set_option maxHeartbeats 2000000 in
theorem law5 [Nonempty (GlK gl)][Nonempty (GlR gl)][Nonempty (M.GlB gl)](hn:1010<=n)(ar:List AV)(h:HasKds [kRe,kRe,.str] ar):call gl tab (n+1) 5 ar []=some (.bool true,[],[]):=by
 simp only[HasKds]at h
 obtain⟨_,_,rfl,h1,_,_,rfl,h2,_,_,rfl,h3,rfl⟩:=h
 obtain⟨x,rfl,rx⟩:=kd_re h1
 obtain⟨y,rfl,ry⟩:=kd_re h2
 obtain⟨z,rfl,hz⟩:=kd_str h3
 clear h1 h2 h3
 have ca:=@sanity_at gl n _ _ hn
 obtain⟨bx,hbx,cx⟩:=@few_at gl n (by omega) x rx
 obtain⟨bz,hby,cy⟩:=@few_at gl n (by omega) y ry
 have box:∀{x:Re},ReR x->((bytesAV x.dat).length=16/\(bytesAV x.pol).length=16/\(bytesAV x.tk.sgn).length=16)/\(bytesAV x.sp.body).length=16/\(bytesAV x.sp.sgn).length=16/\(bytesAV x.le.sgn).length=16:=fun hx =>
  ⟨⟨b16 hx.d,b16 hx.p,b16 hx.t.2.2.2⟩,b16 hx.s.r,b16 hx.s.s,b16 hx.l.s⟩
 obtain⟨⟨u1,u2,u3⟩,u4,u5,u6⟩:=box rx
 obtain⟨⟨v1,v2,v3⟩,v4,v5,v6⟩:=box ry
 have w1:=H.bytes_all x.dat
 have w2:=H.bytes_all x.pol
 have w3:=H.bytes_all x.tk.sgn
 have w4:=H.bytes_all x.sp.body
 have w5:=H.bytes_all x.sp.sgn
 have w6:=H.bytes_all x.le.sgn
 have x1:=H.bytes_all y.dat
 have x2:=H.bytes_all y.pol
 have x3:=H.bytes_all y.tk.sgn
 have x4:=H.bytes_all y.sp.body
 have x5:=H.bytes_all y.sp.sgn
 have x6:=H.bytes_all y.le.sgn
 clear box
 unfold ML at hz
 rw[call_go (fd:=fd5) rfl]
 cases bx
 case false=>simp(maxSteps:=1000000) (disch:=((fail_if_success (intro _));omega)) only[go_sem,simprocAttr,↓reduceIte,↓Nat.reduceEqDiff,xx,fd5,m5,↓out16_eq,ca,cx,cy,u1,u2,u3,u4,u5,u6,v1,v2,v3,v4,v5,v6,w1,w2,w3,w4,w5,w6,x1,x2,x3,x4,x5,x6]
 cases bz
 case false=>simp(maxSteps:=1000000) (disch:=((fail_if_success (intro _));omega)) only[go_sem,simprocAttr,↓reduceIte,↓Nat.reduceEqDiff,xx,fd5,m5,↓out16_eq,ca,cx,cy,u1,u2,u3,u4,u5,u6,v1,v2,v3,v4,v5,v6,w1,w2,w3,w4,w5,w6,x1,x2,x3,x4,x5,x6]
 by_cases hz2:z.length<=1000
 case neg=>simp(maxSteps:=1000000) (disch:=((fail_if_success (intro _));omega)) only[go_sem,simprocAttr,↓reduceIte,↓Nat.reduceEqDiff,xx,fd5,m5,↓out16_eq,ca,cx,cy,u1,u2,u3,u4,u5,u6,v1,v2,v3,v4,v5,v6,w1,w2,w3,w4,w5,w6,x1,x2,x3,x4,x5,x6]
 have sx:=hbx rfl
 have sy:=hby rfl
 have ox:=sx.ok rx
 have oy:=sy.ok ry
 have lx:=reP_len sx
 have ly:=reP_len sy
 have p1:=@parts_at gl n (by omega) x ox
 have p2:=@parts_at gl n (by omega) y oy
 have p3:=@rparts_at gl n (by omega) x ox
 have t1:=@texts_at gl n (by omega) false false (reP x) (reP x) (by omega) (by omega)
 rw[decide_eq_true rfl]at t1
 have t2:=@texts_at gl n (by omega) false false (reP x) (reP y) (by omega) (by omega)
 have l1:=@leaf_at gl n _ (by omega) x rx sx
 have l2:=@rleaf_at gl n _ (by omega) x rx sx
 have q1:=eqBs (leaf_len x)
 have q2:=H.bytes_all (leaf x)
 have q3:=b16 (leaf_len x)
 have d1:=@data_at gl n _ (by omega) z (by omega)
 have d2:=@rdata_at gl n _ (by omega) z (by omega)
 have q4:=eqBs (H.dig_len (inp 440 [z]))
 have q5:=H.bytes_all (dig (inp 440 [z]))
 have q6:=b16 (H.dig_len (inp 440 [z]))
 have q7:=leaf_len x
 have q8:=H.dig_len (inp 440 [z])
 by_cases he:reP x=reP y
 case neg =>
  rw[decide_eq_false he]at t2
  generalize leaf x=g at *
  generalize dig (inp 440 [z])=g2 at *
  generalize reP x=P at *
  generalize reP y=Q at *
  simp(maxSteps:=1000000) (disch:=((fail_if_success (intro _));omega)) only[go_sem,simprocAttr,↓reduceIte,↓Nat.reduceEqDiff,xx,fd5,m5,↓out16_eq,ca,cx,cy,p1,p2,p3,t1,t2,l1,l2,q1,q2,q3,d1,d2,q4,q5,q6,q7,q8,u1,u2,u3,u4,u5,u6,v1,v2,v3,v4,v5,v6,w1,w2,w3,w4,w5,w6,x1,x2,x3,x4,x5,x6,bytesAV_length]
 rw[decide_eq_true he]at t2
 have e:=reP_inj ox oy he
 subst e
 have e1:=eqSp ox.s
 have e2:=eqLe ox.l
 have e3:=eqBs ox.d
 have e4:=eqBs ox.p
 have e5:=eqBs ox.t.s
 have i1:=ox.d
 have i2:=ox.p
 have i3:=ox.t.s
 have i4:=ox.s.r
 have i5:=ox.s.s
 have i6:=ox.l.s
 have hh:=ox.h
 have hc:=ox.t.cl
 have hv:=ox.r.v
 have ht:=ox.r.t
 have g1:=hrs_length x.hs
 have g2:=cds_length x.tk.cs
 have g3:=strsAV_length x.rl.tg
 have g4:=vys_length x.rl.vy
 have sa:=fun i hi=>@step5 gl n x hh i hi
 have sb:=fun i hi=>@step5b gl n x (by omega) hc ox.t.c i hi
 have sc:=fun i hi=>@step5c gl n x (by omega) hv ox.r.vv i hi
 simp only[L5,L5b,L5c,m5,↓out16_eq]at sa sb sc
 have k1:=@texts_at gl n (by omega) false false x.rl.tg x.rl.tg (by omega) (by omega)
 rw[decide_eq_true rfl]at k1
 have k2:=@sameC_at gl n (by omega) _ ox.r.a
 generalize leaf x=g at *
 generalize dig (inp 440 [z])=g7 at *
 generalize reP x=P at *
 clear rx ry sx sy ox oy hbx hby he
 simp(maxSteps:=1000000) (disch:=((fail_if_success (intro _));omega)) only[go_sem,simprocAttr,↓reduceIte,↓Nat.reduceEqDiff,xx,fd5,m5,↓out16_eq,ca,cx,cy,p1,p2,p3,t1,t2,l1,l2,q1,q2,q3,d1,d2,q4,q5,q6,q7,q8,u1,u2,u3,u4,u5,u6,w1,w2,w3,w4,w5,w6,bytesAV_length,e1,e2,e3,e4,e5,i1,i2,i3,i4,i5,i6,eqAsk,eqPs,g1,g2,g3,g4,bne_self_eq_false]
 rw[iter_to (S5 11 x) x.hs.length (by unfold LF;omega)]
 rotate_left
 . simp(disch:=((fail_if_success (intro _));omega)) only[go_sem,simprocAttr,↓reduceIte,↓Nat.reduceEqDiff,xx,S5]
 . exact sa
 . simp(disch:=((fail_if_success (intro _));omega)) only[go_sem,simprocAttr,↓reduceIte,↓Nat.reduceEqDiff,xx,S5,g1]
 rw[S5]
 simp(maxSteps:=1000000) (disch:=((fail_if_success (intro _));omega)) only[go_sem,simprocAttr,↓reduceIte,↓Nat.reduceEqDiff,xx,g1,g2]
 rw[iter_to (S5 12 x) x.tk.cs.length (by unfold LF;omega)]
 rotate_left
 . simp(disch:=((fail_if_success (intro _));omega)) only[go_sem,simprocAttr,↓reduceIte,↓Nat.reduceEqDiff,xx,S5]
 . exact sb
 . simp(disch:=((fail_if_success (intro _));omega)) only[go_sem,simprocAttr,↓reduceIte,↓Nat.reduceEqDiff,xx,S5,g2]
 rw[S5]
 simp(maxSteps:=1000000) (disch:=((fail_if_success (intro _));omega)) only[go_sem,simprocAttr,↓reduceIte,↓Nat.reduceEqDiff,xx,g2,g4]
 rw[iter_to (S5 13 x) x.rl.vy.length (by unfold LF;omega)]
 rotate_left
 . simp(disch:=((fail_if_success (intro _));omega)) only[go_sem,simprocAttr,↓reduceIte,↓Nat.reduceEqDiff,xx,S5]
 . exact sc
 . simp(disch:=((fail_if_success (intro _));omega)) only[go_sem,simprocAttr,↓reduceIte,↓Nat.reduceEqDiff,xx,S5,g4]
 rw[S5]
 simp(maxSteps:=1000000) (disch:=((fail_if_success (intro _));omega)) only[go_sem,simprocAttr,↓reduceIte,↓Nat.reduceEqDiff,xx,g4,ca,k1,k2,e5,u1,u2,u3,u4,u5,u6,w1,w2,w3,w4,w5,w6,i1,i2,i3,i4,i5,i6,bytesAV_length,beq_self_eq_true]
end Go.Proofs.S44.L
namespace Go.Proofs.YtcddalfeicoedaaGreatDoor
open Go Go.Ev Go.Proofs Go.ChangeShapes Go.WideShapes Go.ChangeAt Go.RowKit
theorem own :ownKnob Tryz.prog.godebug=none:=by kernel_rfl
theorem gBit :Tryz.prog.globalNamed "math/bits.deBruijn64tab" =some 1:=by kernel_rfl
theorem gCon :Tryz.prog.globalNamed "weirgate/hash.constants" =some 2:=by kernel_rfl
theorem gRef :Tryz.prog.globalNamed "weirgate/weirgateref02.constants" =some 3:=by kernel_rfl
theorem gBitT :(Tryz.prog.globals[1]?).map (·.type)=some 189:=by kernel_rfl
theorem gConT :(Tryz.prog.globals[2]?).map (·.type)=some 226:=by kernel_rfl
theorem gRefT :(Tryz.prog.globals[3]?).map (·.type)=some 226:=by kernel_rfl
theorem kBit :kdOf Tryz.prog 8 189=some (.ar 64 (.int .u8)):=by kernel_rfl
theorem kCon :kdOf Tryz.prog 8 226=some (.ar 64 (.int .u32)):=by kernel_rfl
theorem avBit :AV.agg (bytesAV S44.M.dbl)=avD (H:=Unit) (.ar 64 (.int .u8)) Rows.laid_math_bits_deBruijn64tab:=by kernel_rfl
theorem avCon :AV.agg S44.kA=avD (H:=Unit) (.ar 64 (.int .u32)) Rows.laid_weirgate_hash_constants:=by kernel_rfl
theorem avRef :AV.agg S44.kA=avD (H:=Unit) (.ar 64 (.int .u32)) Rows.laid_weirgate_weirgateref02_constants:=by kernel_rfl
theorem laidOk :laidOutB Tryz.prog=true:=by kernel_rfl
theorem fnOk_tbl {P:Program}{t t':Nat->Option (Sh×AV)}{ri:Nat->Option RInfo}{f:Nat}{fd:Ev.Fd}(h:FnOk P ⟨t,ri⟩ f fd):FnOk P ⟨t',ri⟩ f fd:=by
 cases h with
 | code h hlt ok=>exact .code h hlt ⟨ok.ok⟩
 | given g h hlt ok=>exact .given g h hlt ok
 | round rid ps sl ma mb hf h ok=>exact .round rid ps sl ma mb hf h ⟨ok.ok⟩
 | dfr D h hlt ok =>
   obtain⟨fn,codes,id,ops,cB,an,im,o,c,h1,h2,h3,h4,h5,h6,h7,h8,h9,h10,h11,h12,h13,h14,h15,h16,h17,fc⟩:=ok.ok
   exact .dfr D h hlt ⟨fn,codes,id,ops,cB,an,im,o,c,h1,h2,h3,h4,h5,h6,h7,h8,h9,h10,h11,h12,h13,h14,h15,h16,h17,⟨fc.ok⟩⟩
noncomputable def gl3:Gl:=⟨fun g=>match g with|1=>some (.ar 64 .sc,.agg (bytesAV S44.M.dbl))|2=>some (.ar 64 .sc,.agg S44.kA)|3=>some (.ar 64 .sc,.agg S44.kA)|_=>none,S44.ri⟩
theorem tab3_ok :∀f fd,S44.tab f=some fd->FnOk Tryz.prog gl3 f fd:=fun f fd h=>fnOk_tbl (S44.tab_ok f fd h)
theorem glHasK :Nonempty (S44.H.GlK gl3):=⟨⟨rfl⟩⟩
theorem glHasR :Nonempty (S44.H.GlR gl3):=⟨⟨rfl⟩⟩
theorem glHasB :Nonempty (S44.M.GlB gl3):=⟨⟨rfl⟩⟩
abbrev laid3 :List (String×DataW Unit):=[("math/bits.deBruijn32tab",Rows.laid_math_bits_deBruijn32tab),("math/bits.deBruijn64tab",Rows.laid_math_bits_deBruijn64tab),("weirgate/weirgateref02.constants",Rows.laid_weirgate_weirgateref02_constants),("weirgate/hash.constants",Rows.laid_weirgate_hash_constants)]
theorem glOk3 {W:World}(h:laidMetH Tryz.prog laid3 W):TabOk W.heap gl3:=by
 have h:laidMet Tryz.prog laid3 W:=h
 refine glOk_laid h fun g sh a hg=> ?_
 match g,hg with
 | 0,hg=>cases hg
 | 1,hg =>
   obtain⟨rfl,rfl⟩:=Prod.mk.inj (Option.some.inj hg)
   exact⟨_,List.mem_cons_of_mem _ List.mem_cons_self,8,189,_,gBit,gBitT,kBit,rfl,avBit⟩
 | 2,hg =>
   obtain⟨rfl,rfl⟩:=Prod.mk.inj (Option.some.inj hg)
   exact⟨_,List.mem_cons_of_mem _ (List.mem_cons_of_mem _ (List.mem_cons_of_mem _ List.mem_cons_self)),8,226,_,gCon,gConT,kCon,rfl,avCon⟩
 | 3,hg =>
   obtain⟨rfl,rfl⟩:=Prod.mk.inj (Option.some.inj hg)
   exact⟨_,List.mem_cons_of_mem _ (List.mem_cons_of_mem _ List.mem_cons_self),8,226,_,gRef,gRefT,kCon,rfl,avRef⟩
 | _+4,hg=>cases hg
def conCells :Array Value:=(S44.kList.map fun x=>Value.int .u32 (x.toNat:Int)).toArray
def bit32Cells :Array Value:=([0,1,28,2,29,14,24,3,30,22,20,15,25,17,4,8,31,27,13,23,21,19,16,7,26,12,18,6,11,5,10,9]:List Int).map (fun x=>Value.int .u8 x) |>.toArray
def bit64Cells :Array Value:=(S44.M.dbl.map fun x=>Value.int .u8 (x.toNat:Int)).toArray
def put (vs:Array Value):Obj->Obj
 | .cells _ t frozen=>.cells vs t frozen
 | o=>o
noncomputable def laidWorld (os:Os):World :=
 {World.holding Tryz.prog os ⟨#[],#[],[]⟩with heap:=((((World.holding Tryz.prog os ⟨#[],#[],[]⟩).heap.modify 0 (put bit32Cells)).modify 1 (put bit64Cells)).modify 2 (put conCells)).modify 3 (put conCells)}
end Go.Proofs.YtcddalfeicoedaaGreatDoor
