/-
  Chapter 44: the law on checks. No condition.
-/
import Derived.Test.YtcddalfeicoedaaGreatDoorW44G22x7
import Derived.Test.YtcddalfeicoedaaGreatDoorW44G16x7
import Derived.Test.YtcddalfeicoedaaGreatDoorW44G6x7
import Derived.Test.YtcddalfeicoedaaGreatDoorCards
import Derived.Test.YtcddalfeicoedaaGreatDoorTie
import Derived.ProofKit
import Derived.OpenShut
import Derived.Deep.DeepHandedRow
import Derived.Lib.LaidTab
import Derived.MakeChecks
set_option linter.unusedVariables false
set_option linter.unusedSimpArgs false
set_option linter.unusedSectionVars false
namespace Go.Proofs.S44.L
open Go Go.Ev Go.Proofs Go.Proofs.S44
open Go.Proofs.S44.H (GlK GlR)
open Go.Proofs.S44.M (Dg dgL dgL_length All16 sB)
variable {gl :Gl} {n:Nat}
abbrev kKy :Kd:=.st [kI,kI,.str,kI,kI]
abbrev kHd :Kd:=.st [kI,kI,kB,.st [kI,kI],kI,kB]
abbrev kSh :Kd:=.st [kRe,kHd,.sl kB]
theorem ks_of :∀{l:List AV},(∀x∈l,HasKd kKy x)->∃r:List Ky,l=ks r/\∀i,i<r.length->(yat r i).k.length<=ML
 | [],_=>⟨[],rfl,fun i hi=>by simp at hi⟩
 | x::l,h=>by
   obtain⟨_,rfl,h0⟩:=h x (by simp)
   simp only[HasKds]at h0
   obtain⟨_,_,rfl,h1,_,_,rfl,h2,_,_,rfl,h3,_,_,rfl,h4,_,_,rfl,h5,rfl⟩:=h0
   obtain⟨p,rfl,hp⟩:=kd_i h1
   obtain⟨s,rfl,hs⟩:=kd_i h2
   obtain⟨k,rfl,hk⟩:=zd0 h3
   obtain⟨f,rfl,hf⟩:=kd_i h4
   obtain⟨t,rfl,ht⟩:=kd_i h5
   obtain⟨r,rfl,hr⟩:=ks_of (l:=l) fun y hy=>h y (by simp[hy])
   refine⟨⟨p,s,k,f,t⟩::r,rfl,fun i hi=> ?_⟩
   cases i with
   | zero=>exact hk
   | succ i=>exact hr i (by simpa using hi)
theorem kd_ring {a:AV}(h:HasKd (.sl kKy) a):∃r,a= .lst false sY (ks r)/\r.length<=ML/\∀i,i<r.length->(yat r i).k.length<=ML:=by
 obtain⟨l,rfl,h1,h2⟩:=h
 obtain⟨r,rfl,hr⟩:=ks_of h2
 exact⟨r,rfl,by rw[zas]at h1;exact ml_le h1,hr⟩
theorem kd_hd {a:AV}(h:HasKd kHd a):∃x,a=hdAV x/\HdOk x:=by
 obtain⟨_,rfl,h⟩:=h
 simp only[HasKds]at h
 obtain⟨_,_,rfl,h1,_,_,rfl,h2,_,_,rfl,h3,_,_,rfl,h4,_,_,rfl,h5,_,_,rfl,h6,rfl⟩:=h
 obtain⟨a1,rfl,b1⟩:=kd_i h1
 obtain⟨a2,rfl,b2⟩:=kd_i h2
 obtain⟨a3,rfl,b3⟩:=kd_B h3
 obtain⟨_,rfl,h4⟩:=h4
 simp only[HasKds]at h4
 obtain⟨_,_,rfl,h41,_,_,rfl,h42,rfl⟩:=h4
 obtain⟨a4,rfl,b4⟩:=kd_i h41
 obtain⟨a4',rfl,b4'⟩:=kd_i h42
 obtain⟨a5,rfl,b5⟩:=kd_i h5
 obtain⟨a6,rfl,b6⟩:=kd_B h6
 exact⟨⟨a1,a2,a3,a4,a4',a5,a6⟩,rfl,⟨zbo b1 (few4 b2 b4 b4' b5) (by simp),b3,b6⟩⟩
theorem dgs_of :∀{l:List AV},(∀x∈l,HasKd kB x)->∃r:List Dg,l=dgL r/\All16 r
 | [],_=>⟨[],rfl,fun y h=>by simp at h⟩
 | x::l,h=>by
   obtain⟨a,rfl,ha⟩:=kd_B (h x (by simp))
   obtain⟨r,rfl,hr⟩:=dgs_of (l:=l) fun y hy=>h y (by simp[hy])
   exact⟨a::r,rfl,fun y hy=>by
    simp at hy
    rcases hy with rfl|hy
    . exact ha
    . exact hr y hy⟩
theorem kd_dgs {a:AV}(h:HasKd (.sl kB) a):∃r,a= .lst false sB (dgL r)/\r.length<=ML/\All16 r:=by
 obtain⟨l,rfl,h1,h2⟩:=h
 obtain⟨r,rfl,hr⟩:=dgs_of h2
 exact⟨r,rfl,by rw[dgL_length]at h1;exact ml_le h1,hr⟩
theorem isring_at (h:3<=n){l:List Ky}(hl:l.length<=ML)(hk:∀i,i<l.length->(yat l i).k.length<=ML) :
  ∃b:Bool,(b=true->VR l/\l.length<=20)/\call gl tab n 38 [.lst false sY (ks l)] []=some (.bool b,[],[]):=by
 obtain⟨d,rfl⟩:=Nat.exists_eq_add_of_le' h
 have hL:=zas l
 unfold ML at *
 by_cases h1:l.length<=20
 . obtain⟨b,hb,c⟩:=@ring_at gl (d+2) (by omega) false sY l (.inr rfl) ⟨by omega,hk⟩
   refine⟨b,fun h=>⟨hb.1 h,h1⟩,?_⟩
   rw[zad (fd:=fd38) rfl]
   simp(disch:=(fail_if_success intro _);omega) only[go_sem,simprocAttr,↓Nat.reduceEqDiff,xx,fd38,m38,hL,c]
 . refine⟨false,(fun h=>by cases h),?_⟩
   rw[zad (fd:=fd38) rfl]
   simp(disch:=(fail_if_success intro _);omega) only[go_sem,simprocAttr,↓Nat.reduceEqDiff,xx,fd38,m38,hL]
set_option maxHeartbeats 2000000 in
theorem law7 [Nonempty (GlK gl)][Nonempty (GlR gl)][Nonempty (M.GlB gl)](hn:2010<=n)(ar:List AV)(h:HasKds [.sl kKy,kSh,kHd] ar):call gl tab (n+1) 7 ar []=some (.bool true,[],[]):=by
 simp only[HasKds]at h
 obtain⟨_,_,rfl,h1,_,_,rfl,h2,_,_,rfl,h3,rfl⟩:=h
 obtain⟨r,rfl,rl,rk⟩:=kd_ring h1
 obtain⟨_,rfl,h2⟩:=h2
 simp only[HasKds]at h2
 obtain⟨_,_,rfl,h21,_,_,rfl,h22,_,_,rfl,h23,rfl⟩:=h2
 obtain⟨x,rfl,rx⟩:=kd_re h21
 obtain⟨a,rfl,oa⟩:=kd_hd h22
 obtain⟨p,rfl,lp,ap⟩:=kd_dgs h23
 obtain⟨b,rfl,ob⟩:=kd_hd h3
 clear h1 h21 h22 h23 h3
 have ca:=@sanity_at gl n _ _ (by omega)
 obtain⟨br,hbr,cr⟩:=@isring_at gl n (by omega) r rl rk
 obtain⟨bx,hbx,cx⟩:=@few_at gl n (by omega) x rx
 have u1:=b16 rx.d
 have u2:=b16 rx.p
 have u3:=b16 rx.t.2.2.2
 have u4:=b16 rx.s.r
 have u5:=b16 rx.s.s
 have u6:=b16 rx.l.s
 have w1:=H.bytes_all x.dat
 have w2:=H.bytes_all x.pol
 have w3:=H.bytes_all x.tk.sgn
 have w4:=H.bytes_all x.sp.body
 have w5:=H.bytes_all x.sp.sgn
 have w6:=H.bytes_all x.le.sgn
 have v1:=b16 oa.r
 have v2:=b16 oa.s
 have v3:=b16 ob.r
 have v4:=b16 ob.s
 have x1:=H.bytes_all a.root
 have x2:=H.bytes_all a.sgn
 have x3:=H.bytes_all b.root
 have x4:=H.bytes_all b.sgn
 have hL:=dgL_length p
 unfold ML at lp
 rw[zad (fd:=fd7) rfl]
 cases br
 case false=>simp(maxSteps:=1000000) (disch:=(fail_if_success intro _);omega) only[go_sem,simprocAttr,↓Nat.reduceEqDiff,xx,fd7,m7,↓out16_eq,ca,cr,cx,u1,u2,u3,u4,u5,u6,w1,w2,w3,w4,w5,w6,v1,v2,v3,v4,x1,x2,x3,x4,hL]
 cases bx
 case false=>simp(maxSteps:=1000000) (disch:=(fail_if_success intro _);omega) only[go_sem,simprocAttr,↓Nat.reduceEqDiff,xx,fd7,m7,↓out16_eq,ca,cr,cx,u1,u2,u3,u4,u5,u6,w1,w2,w3,w4,w5,w6,v1,v2,v3,v4,x1,x2,x3,x4,hL]
 by_cases hp:p.length<=80
 case neg=>simp(maxSteps:=1000000) (disch:=(fail_if_success intro _);omega) only[go_sem,simprocAttr,↓Nat.reduceEqDiff,xx,fd7,m7,↓out16_eq,ca,cr,cx,u1,u2,u3,u4,u5,u6,w1,w2,w3,w4,w5,w6,v1,v2,v3,v4,x1,x2,x3,x4,hL]
 obtain⟨hv,_⟩:=hbr rfl
 have sx:=hbx rfl
 have o:=toRv_ok (gl:=gl) rx sx
 have o':=toRv_r (gl:=gl) rx sx
 have c1:=shown_at (gl:=gl) (n:=n) (fr:=false) (m:=sY) (by omega) (.inr rfl) hv o oa (f:=false) ap (by omega) (.inr rfl)
 have c2:=rshown_at (gl:=gl) (n:=n) (fr:=false) (m:=sY) (by omega) (.inr rfl) hv o o' oa (f:=false) ap (by omega) (.inr rfl)
 rw[toRv_av]at c1 c2
 have c3:=heads_at (gl:=gl) (n:=n) (fr:=false) (m:=sY) (by omega) (.inr rfl) hv oa ob (f:=false) ap (by omega) (.inr rfl)
 have c4:=rheads_at (gl:=gl) (n:=n) (fr:=false) (m:=sY) (by omega) (.inr rfl) hv oa ob (f:=false) ap (by omega) (.inr rfl)
 have c5:=forked_at (gl:=gl) (n:=n) (fr:=false) (m:=sY) (by omega) (.inr rfl) hv oa ob
 have c6:=rforked_at (gl:=gl) (n:=n) (fr:=false) (m:=sY) (by omega) (.inr rfl) hv oa ob
 generalize ckS r (toRv x) a p=y1 at *
 generalize ckH r a b p=y2 at *
 generalize ckF r a b=y3 at *
 have e3:(y3==y3)=true:=beq_self_eq_true _
 clear o o' sx hbx hbr hv
 simp(maxSteps:=1000000) (disch:=(fail_if_success intro _);omega) only[go_sem,simprocAttr,↓Nat.reduceEqDiff,xx,fd7,m7,↓out16_eq,ca,cr,cx,u1,u2,u3,u4,u5,u6,w1,w2,w3,w4,w5,w6,v1,v2,v3,v4,x1,x2,x3,x4,hL,c1,c2,c3,c4,c5,c6,bne_self_eq_false,beq_self_eq_true,e3]
end Go.Proofs.S44.L
namespace Go.Proofs.YtcddalfeicoedaaGreatDoor
open Go Go.Ev Go.Proofs Go.ChangeShapes Go.WideShapes Go.ChangeAt Go.RowKit
theorem own :ownKnob Tryz.prog.godebug=none:=by kernel_rfl
theorem gBit :Tryz.prog.globalNamed "math/bits.deBruijn64tab" =some 1:=by kernel_rfl
theorem gCon :Tryz.prog.globalNamed "weirgate/hash.constants" =some 2:=by kernel_rfl
theorem gRef :Tryz.prog.globalNamed "weirgate/weirgateref02.constants" =some 3:=by kernel_rfl
theorem gBitT :(Tryz.prog.globals[1]?).map (·.type)=some 189:=by kernel_rfl
theorem gConT :(Tryz.prog.globals[2]?).map (·.type)=some 226:=by kernel_rfl
theorem gRefT :(Tryz.prog.globals[3]?).map (·.type)=some 226:=by kernel_rfl
theorem kBit :kdOf Tryz.prog 8 189=some (.ar 64 (.int .u8)):=by kernel_rfl
theorem kCon :kdOf Tryz.prog 8 226=some (.ar 64 (.int .u32)):=by kernel_rfl
theorem avBit :AV.agg (zac S44.M.dbl)=avD (H:=Unit) (.ar 64 (.int .u8)) Rows.laid_math_bits_deBruijn64tab:=by kernel_rfl
theorem avCon :AV.agg S44.kA=avD (H:=Unit) (.ar 64 (.int .u32)) Rows.laid_weirgate_hash_constants:=by kernel_rfl
theorem avRef :AV.agg S44.kA=avD (H:=Unit) (.ar 64 (.int .u32)) Rows.laid_weirgate_weirgateref02_constants:=by kernel_rfl
theorem laidOk :laidOutB Tryz.prog=true:=by kernel_rfl
theorem fnOk_tbl {P:Program}{t t':Nat->Option (Sh×AV)}{ri:Nat->Option RInfo}{f:Nat}{fd:Ev.Fd}(h:FnOk P ⟨t,ri⟩ f fd):FnOk P ⟨t',ri⟩ f fd:=by
 cases h with
 | code h hlt ok=>exact .code h hlt ⟨ok.ok⟩
 | given g h hlt ok=>exact .given g h hlt ok
 | round rid ps sl ma mb hf h ok=>exact .round rid ps sl ma mb hf h ⟨ok.ok⟩
 | dfr D h hlt ok =>
   obtain⟨fn,codes,id,ops,cB,an,im,o,c,h1,h2,h3,h4,h5,h6,h7,h8,h9,h10,h11,h12,h13,h14,h15,h16,h17,fc⟩:=ok.ok
   exact .dfr D h hlt ⟨fn,codes,id,ops,cB,an,im,o,c,h1,h2,h3,h4,h5,h6,h7,h8,h9,h10,h11,h12,h13,h14,h15,h16,h17,⟨fc.ok⟩⟩
noncomputable def gl3:Gl:=⟨fun g=>match g with|1=>some (.ar 64 .sc,.agg (zac S44.M.dbl))|2=>some (.ar 64 .sc,.agg S44.kA)|3=>some (.ar 64 .sc,.agg S44.kA)|_=>none,S44.ri⟩
theorem tab3_ok :∀f fd,S44.tab f=some fd->FnOk Tryz.prog gl3 f fd:=fun f fd h=>fnOk_tbl (S44.tab_ok f fd h)
theorem glHasK :Nonempty (S44.H.GlK gl3):=⟨⟨rfl⟩⟩
theorem glHasR :Nonempty (S44.H.GlR gl3):=⟨⟨rfl⟩⟩
theorem glHasB :Nonempty (S44.M.GlB gl3):=⟨⟨rfl⟩⟩
abbrev laid3 :List (String×DataW Unit):=[("math/bits.deBruijn32tab",Rows.laid_math_bits_deBruijn32tab),("math/bits.deBruijn64tab",Rows.laid_math_bits_deBruijn64tab),("weirgate/weirgateref02.constants",Rows.laid_weirgate_weirgateref02_constants),("weirgate/hash.constants",Rows.laid_weirgate_hash_constants)]
theorem glOk3 {W:World}(h:laidMetH Tryz.prog laid3 W):TabOk W.heap gl3:=by
 have h:laidMet Tryz.prog laid3 W:=h
 refine glOk_laid h fun g sh a hg=> ?_
 match g,hg with
 | 0,hg=>cases hg
 | 1,hg =>
   obtain⟨rfl,rfl⟩:=Prod.mk.inj (Option.some.inj hg)
   exact⟨_,List.mem_cons_of_mem _ List.mem_cons_self,8,189,_,gBit,gBitT,kBit,rfl,avBit⟩
 | 2,hg =>
   obtain⟨rfl,rfl⟩:=Prod.mk.inj (Option.some.inj hg)
   exact⟨_,List.mem_cons_of_mem _ (List.mem_cons_of_mem _ (List.mem_cons_of_mem _ List.mem_cons_self)),8,226,_,gCon,gConT,kCon,rfl,avCon⟩
 | 3,hg =>
   obtain⟨rfl,rfl⟩:=Prod.mk.inj (Option.some.inj hg)
   exact⟨_,List.mem_cons_of_mem _ (List.mem_cons_of_mem _ List.mem_cons_self),8,226,_,gRef,gRefT,kCon,rfl,avRef⟩
 | _+4,hg=>cases hg
def conCells :Array Value:=(S44.kList.map fun x=>Value.int .u32 (x.toNat:Int)).toArray
def bit32Cells :Array Value:=([0,1,28,2,29,14,24,3,30,22,20,15,25,17,4,8,31,27,13,23,21,19,16,7,26,12,18,6,11,5,10,9]:List Int).map (fun x=>Value.int .u8 x) |>.toArray
def bit64Cells :Array Value:=(S44.M.dbl.map fun x=>Value.int .u8 (x.toNat:Int)).toArray
def put (vs:Array Value):Obj->Obj
 | .cells _ t frozen=>.cells vs t frozen
 | o=>o
noncomputable def laidWorld (os:Os):World :=
 {World.holding Tryz.prog os ⟨#[],#[],[]⟩with heap:=((((World.holding Tryz.prog os ⟨#[],#[],[]⟩).heap.modify 0 (put bit32Cells)).modify 1 (put bit64Cells)).modify 2 (put conCells)).modify 3 (put conCells)}
end Go.Proofs.YtcddalfeicoedaaGreatDoor
