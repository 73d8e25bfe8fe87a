/-
  Chapter 3: peaks that grow have the root as their top. No condition.
-/
import Derived.Test.YthelhoikbegjlaaDoorW03G25x8
import Derived.Test.YthelhoikbegjlaaDoorW03G22x8
import Derived.Test.YthelhoikbegjlaaDoorCards
import Derived.Test.YthelhoikbegjlaaDoorTie
import Derived.ProofKit
import Derived.OpenShut
import Derived.Deep.DeepHandedRow
import Derived.Lib.LaidTab
import Derived.MakeChecks
set_option linter.unusedVariables false
set_option linter.unusedSimpArgs false
set_option linter.unusedSectionVars false
namespace Go.Proofs.S03
open Go Go.Ev Go.Proofs Go.Mk
open Go.Proofs.S03.H (GlK GlR)
variable {gl :Gl} {n:Nat}
def P8 (l:List Dg)(k:Nat):List Dg:=pk nd em (l.take k)
def R8 (l:List Dg)(k:Nat):Dg:=rt nd em (l.take k)
theorem P8_zero (l:List Dg):P8 l 0=[]:=pk_nil
theorem P8_len {l:List Dg}{k:Nat}(h:k<=l.length):(P8 l k).length=pcn k:=by
 rw[P8,pk_len _ _ (Nat.le_refl _),List.length_take,Nat.min_eq_left h]
theorem pcn_le8 :∀(q n:Nat),n<=q->pcn n<=n
 | q,n,h=>by
   by_cases h0:n=0
   . subst h0;rw[pcn_0];omega
   . match q,h with
     | 0,h=>omega
     | q+1,h=>rw[pcn_two];have:=pcn_le8 q (n/2) (by omega);omega
theorem pcn_le40 (l:List Dg)(hl:l.length<=40){k:Nat}(hk:k<=l.length):(P8 l k).length<=1000000:=by
 rw[P8_len hk];have:=pcn_le8 _ k (Nat.le_refl _);omega
theorem P8_form {l:List Dg}{k:Nat}(h:k<=l.length)(hl:l.length<=40):Form k (P8 l k):=⟨by omega,by omega,by rw[P8_len h,Int.toNat_natCast]⟩
theorem P8_ne {l:List Dg}{k:Nat}(h:k+1<=l.length):P8 l (k+1)≠[]:=by
 obtain⟨d,r,e⟩:=@pk_ne Dg nd em (l.take (k+1)) (by rw[List.length_take];omega)
 rw[P8,e];simp
theorem P8_next {l:List Dg}{k:Nat}(h:k<l.length):grw k (P8 l k) (dgA l k)=P8 l (k+1):=by
 have hle:tr1 k<=(P8 l k).length:=by rw[P8_len (by omega)];exact tr1_le _ _ (Nat.le_refl _)
 rw[grw_jns em hle]
 have e:=@ap_pk Dg nd em em _ (l.take k) (dgA l k) (Nat.le_refl _)
 rw[List.length_take,Nat.min_eq_left (by omega)]at e
 rw[P8,P8,e,List.take_succ_eq_append_getElem h]
 congr 2
 simp[dgA,h]
theorem P8_all :∀(l:List Dg) (k:Nat),k<=l.length->All16 l->All16 (P8 l k)
 | l,0,h,ha=>by rw[P8_zero];exact All16.nil
 | l,k+1,h,ha=>by
   rw[<-P8_next (by omega),grw]
   exact((P8_all l k (by omega) ha).take _).app (.one (bk_len _ (ha.at (by omega))))
theorem R8_len {l:List Dg}(ha:All16 l)(k:Nat):(R8 l k).length=16:=rt_len (ha.take _)
theorem topV8 (l:List Dg)(k:Nat):topV (P8 l k)=R8 l k:=by rw[topV_tpF,P8,tp_pk _ _ (Nat.le_refl _),R8]
def L8 :MC:=match m8 with| .seq _ (.seq _ (.seq _ (.seq (.seq _ (.block _ (.loop _ b))) _)))=>b|_=>.skip
def pv8 (l:List Dg):Nat->AV
 | 0=>.agg [i64 0,.lst true .sc []]
 | k+1=>.agg [i64 ((k+1:Nat):Int),.lst false sB (dgL (P8 l (k+1)))]
def S8 (l:List Dg)(k:Nat):St:=⟨[.set 4 (i64 k),.set 3 (.ptr 3 []),.set 0 (.lst false sB (dgL l))],[(3,.fix (.st [.sc,.sc]) (pv8 l k))]⟩
section
variable [Nonempty (GlK gl)] [Nonempty (GlR gl)] [Nonempty (GlB gl)]
theorem root8 (h:1000<=n){l:List Dg}(hl:l.length<=40)(ha:All16 l)(k:Nat):call gl tab n 15 [.lst false sB (dgL (l.take k))] []=some (bAV (R8 l k),[],[]) :=
 root_at 40 _ false sB (by rw[List.length_take];omega) (by omega) (ha.take _) (by rw[List.length_take];omega) (.inr rfl)
theorem top8_0 (h:1000<=n)(l:List Dg):call gl tab n 29 [.agg [i64 0,.lst true .sc []]] []=some (.tup [bAV (R8 l 0),i64 0],[],[]):=by
 have e:R8 l 0=em:=rt_nil
 rw[e]
 exact @top_nil gl n _ (by omega) 0 true .sc (by omega) form0
theorem top8_s (h:1000<=n){l:List Dg}(hl:l.length<=40)(ha:All16 l){k:Nat}(hk:k+1<=l.length):call gl tab n 29 [.agg [i64 ((k+1:Nat):Int),.lst false sB (dgL (P8 l (k+1)))]] []=some (.tup [bAV (R8 l (k+1)),i64 0],[],[]):=by
 rw[<-topV8]
 have:=pcn_le40 l hl hk
 exact top_ok (by omega) this (P8_all l _ hk ha) (P8_ne hk) (by omega) (P8_form hk hl)
theorem app8_0 (h:1000<=n){l:List Dg}(ha:All16 l)(hk:0<l.length):call gl tab n 28 [.agg [i64 0,.lst true .sc []],bAV (dgA l 0)] []=some (.tup [.agg [i64 1,.lst false sB (dgL (P8 l 1))],i64 0],[],[]):=by
 rw[<-P8_next hk,P8_zero]
 exact @append_ok gl n _ _ (by omega) 0 true .sc [] _ (ha.at hk) (by simp) All16.nil (.inl rfl) (by omega) form0
theorem app8_s (h:1000<=n){l:List Dg}(hl:l.length<=40)(ha:All16 l){k:Nat}(hk:k+1<l.length):call gl tab n 28 [.agg [i64 ((k+1:Nat):Int),.lst false sB (dgL (P8 l (k+1)))],bAV (dgA l (k+1))] []=some (.tup [.agg [i64 ((k+1+1:Nat):Int),.lst false sB (dgL (P8 l (k+1+1)))],i64 0],[],[]):=by
 rw[<-P8_next hk]
 have:=pcn_le40 l hl (show k+1<=l.length by omega)
 exact append_ok (by omega) (ha.at hk) this (P8_all l _ (by omega) ha) (.inr rfl) (by omega) (P8_form (by omega) hl)
abbrev K8 :List Kp:=[.slot 0,.slot 3,.slot 4,.key 3]
theorem step8 (h:1000<=n){l:List Dg}(hl:l.length<=40)(ha:All16 l)(k:Nat)(hk:k<l.length) :
  contK K8 (evC gl (call gl tab n) L8 (S8 l k))=some (S8 l (k+1)):=by
 have hL:=dgL_length l
 have hx:=dgL_at hk
 have q1:=ha.at hk
 have q2:=H.bytes_all (dgA l k)
 have r1:=root8 (gl:=gl) h hl ha k
 have r2:=R8_len ha k
 have r3:=H.bytes_all (R8 l k)
 have r4:=eqB r2 r2
 rw[decide_eq_true rfl]at r4
 have ht:=dgL_take l k
 match k,hk with
 | 0,hk =>
   have t:=top8_0 (gl:=gl) h l
   have a:=app8_0 (gl:=gl) h ha hk
   have s:=@same_at gl n (by omega) true false .sc sB [] All16.nil (.inl rfl) (.inr rfl) (by simp)
   replace s:call gl tab n 17 [.lst true .sc [],.lst false sB []] []=some (.bool true,[],[]):=s
   rw[<-dgL_take]at r1
   replace r1:call gl tab n 15 [.lst false sB []] []=some (bAV (R8 l 0),[],[]):=r1
   replace hx:(dgL l)[0]? =some (.agg (bytesAV (dgA l 0))):=hx
   generalize R8 l 0=r at *
   generalize dgA l 0=x at *
   rw[S8,S8,pv8,pv8]
   simp(implicitDefEqProofs:=false) (disch:=((fail_if_success (intro _));omega)) only[go_sem,simprocAttr,↓reduceIte,↓Nat.reduceEqDiff,xx,L8,m8,hL,hx,q1,q2,r1,r2,r3,r4,t,a,s,sB_size,↓out16_eq,H.out16_len,H.out16_all,H.out16_pl,List.take_zero]
 | k+1,hk =>
   have t:=top8_s (gl:=gl) h hl ha (show k+1<=l.length by omega)
   have a:=app8_s (gl:=gl) h hl ha hk
   have pl:=pcn_le40 l hl (show k+1<=l.length by omega)
   have pa:=P8_all l (k+1) (by omega) ha
   have s:=@same_at gl n (by omega) false false sB sB (P8 l (k+1)) pa (.inr rfl) (.inr rfl) pl
   have hP:=dgL_length (P8 l (k+1))
   have hT:=dgL_all (P8 l (k+1))
   have n1:=dgL_noImms (P8 l (k+1))
   have hlim:(P8 l (k+1)).length<=LIM:=by unfold LIM;omega
   rw[<-dgL_take]at r1
   clear ht pa
   rw[S8,S8,pv8,pv8]
   generalize R8 l (k+1)=r at *
   generalize dgA l (k+1)=x at *
   generalize P8 l (k+1)=p at *
   generalize P8 l (k+1+1)=p2 at *
   have i1:((k+1:Nat):Int)+1=((k+1+1:Nat):Int):=by omega
   generalize k+1=w at *
   generalize ((w+1:Nat):Int)=z2 at *
   simp(implicitDefEqProofs:=false) (disch:=((fail_if_success (intro _));omega)) only[go_sem,simprocAttr,↓reduceIte,↓Nat.reduceEqDiff,xx,L8,m8,hL,hP,hT,n1,hx,q1,q2,r1,r2,r3,r4,t,a,s,sB_size,↓out16_eq,H.out16_len,H.out16_all,H.out16_pl,i1]
theorem out1_any {t:Nat}{r:Option (Ex×St)}{e:Ex}{v:AV}(h:out1 t r=some (e,v)):∃st,r=some (e,st):=by
 rcases r with _|⟨e',st⟩
 . cases h
 . simp only[out1,Option.map_some,Option.some.injEq,Prod.mk.injEq]at h
   exact⟨st,by rw[h.1]⟩
theorem last8 (h:1000<=n){l:List Dg}(hl:l.length<=40)(ha:All16 l):out1 4 (evC gl (call gl tab n) L8 (S8 l l.length))=some (.exit 0,i64 l.length):=by
 have hL:=dgL_length l
 have r1:=root8 (gl:=gl) h hl ha l.length
 have r2:=R8_len ha l.length
 have r3:=H.bytes_all (R8 l l.length)
 have r4:=eqB r2 r2
 rw[decide_eq_true rfl]at r4
 rw[<-dgL_take]at r1
 match hk:l.length with
 | 0 =>
   have t:=top8_0 (gl:=gl) h l
   rw[hk]at hL r1 r2 r3 r4
   replace r1:call gl tab n 15 [.lst false sB []] []=some (bAV (R8 l 0),[],[]):=by rw[List.take_zero]at r1;exact r1
   generalize R8 l 0=r at *
   rw[S8,pv8]
   simp(implicitDefEqProofs:=false) (disch:=((fail_if_success (intro _));omega)) only[go_sem,simprocAttr,↓reduceIte,↓Nat.reduceEqDiff,xx,L8,m8,hL,r1,r2,r3,r4,t,sB_size,↓out16_eq,H.out16_len,H.out16_all,H.out16_pl,List.take_zero,hk]
 | k+1 =>
   have t:=top8_s (gl:=gl) h hl ha (show k+1<=l.length by omega)
   have n1:=dgL_noImms (P8 l (k+1))
   rw[hk]at hL r1 r2 r3 r4
   rw[S8,pv8]
   simp only[Nat.succ_eq_add_one]at *
   generalize R8 l (k+1)=r at *
   generalize P8 l (k+1)=p at *
   generalize k+1=w at *
   simp(implicitDefEqProofs:=false) (disch:=((fail_if_success (intro _));omega)) only[go_sem,simprocAttr,↓reduceIte,↓Nat.reduceEqDiff,xx,L8,m8,hL,n1,r1,r2,r3,r4,t,sB_size,↓out16_eq,H.out16_len,H.out16_all,H.out16_pl,hk]
theorem law8 (hn:1001<=n)(ar:List AV)(h:HasKds [.sl kB] ar):call gl tab (n+1) 8 ar []=some (.bool true,[],[]):=by
 simp only[HasKds]at h
 obtain⟨_,_,rfl,h1,rfl⟩:=h
 obtain⟨l,rfl,ha,hl0⟩:=kd_dgs h1
 clear h1
 have c9:=@sanity_at gl n _ _ _ hn
 have hL:=dgL_length l
 by_cases hl:l.length<=40
 case neg =>
  rw[call_go (fd:=fd8) rfl]
  simp(disch:=((fail_if_success (intro _));omega)) only[go_sem,simprocAttr,↓reduceIte,↓Nat.reduceEqDiff,xx,fd8,m8,c9,hL]
 have st:=fun i hi=>step8 (gl:=gl) (n:=n) (by omega) hl ha i hi
 obtain⟨s2,lt⟩:=out1_any (last8 (gl:=gl) (n:=n) (by omega) hl ha)
 simp only[L8,m8,↓out16_eq]at st lt
 rw[call_go (fd:=fd8) rfl]
 simp(disch:=((fail_if_success (intro _));omega)) only[go_sem,simprocAttr,↓reduceIte,↓Nat.reduceEqDiff,xx,fd8,m8,c9,hL,↓out16_eq]
 rw[iter_to (S8 l) l.length (by unfold LF;omega)]
 . rw[lt];simp(disch:=((fail_if_success (intro _));omega)) only[go_sem,simprocAttr,↓reduceIte,↓Nat.reduceEqDiff,xx,c9]
 . rw[S8,pv8];simp(disch:=((fail_if_success (intro _));omega)) only[go_sem,simprocAttr,↓reduceIte,↓Nat.reduceEqDiff,xx]
 . exact st
 . rw[lt];rfl
end
end Go.Proofs.S03
namespace Go.Proofs.YthelhoikbegjlaaDoor
open Go Go.Ev Go.Proofs Go.ChangeShapes Go.WideShapes Go.ChangeAt Go.RowKit
theorem own :ownKnob Tryd.prog.godebug=none:=by kernel_rfl
theorem gBit :Tryd.prog.globalNamed "math/bits.deBruijn64tab" =some 1:=by kernel_rfl
theorem gCon :Tryd.prog.globalNamed "weirgate/hash.constants" =some 2:=by kernel_rfl
theorem gRef :Tryd.prog.globalNamed "weirgate/weirgateref02.constants" =some 3:=by kernel_rfl
theorem gBitT :(Tryd.prog.globals[1]?).map (·.type)=some 102:=by kernel_rfl
theorem gConT :(Tryd.prog.globals[2]?).map (·.type)=some 123:=by kernel_rfl
theorem gRefT :(Tryd.prog.globals[3]?).map (·.type)=some 123:=by kernel_rfl
theorem kBit :kdOf Tryd.prog 8 102=some (.ar 64 (.int .u8)):=by kernel_rfl
theorem kCon :kdOf Tryd.prog 8 123=some (.ar 64 (.int .u32)):=by kernel_rfl
theorem avBit :AV.agg (bytesAV S03.dbl)=avD (H:=Unit) (.ar 64 (.int .u8)) Rows.laid_math_bits_deBruijn64tab:=by kernel_rfl
theorem avCon :AV.agg S03.kA=avD (H:=Unit) (.ar 64 (.int .u32)) Rows.laid_weirgate_hash_constants:=by kernel_rfl
theorem avRef :AV.agg S03.kA=avD (H:=Unit) (.ar 64 (.int .u32)) Rows.laid_weirgate_weirgateref02_constants:=by kernel_rfl
theorem laidOk :laidOutB Tryd.prog=true:=by kernel_rfl
theorem fnOk_tbl {P:Program}{t t':Nat->Option (Sh×AV)}{ri:Nat->Option RInfo}{f:Nat}{fd:Ev.Fd}(h:FnOk P ⟨t,ri⟩ f fd):FnOk P ⟨t',ri⟩ f fd:=by
 cases h with
 | code h hlt ok=>exact .code h hlt ⟨ok.ok⟩
 | given g h hlt ok=>exact .given g h hlt ok
 | round rid ps sl ma mb hf h ok=>exact .round rid ps sl ma mb hf h ⟨ok.ok⟩
 | dfr D h hlt ok =>
   obtain⟨fn,codes,id,ops,cB,an,im,o,c,h1,h2,h3,h4,h5,h6,h7,h8,h9,h10,h11,h12,h13,h14,h15,h16,h17,fc⟩:=ok.ok
   exact .dfr D h hlt ⟨fn,codes,id,ops,cB,an,im,o,c,h1,h2,h3,h4,h5,h6,h7,h8,h9,h10,h11,h12,h13,h14,h15,h16,h17,⟨fc.ok⟩⟩
noncomputable def gl3:Gl:=⟨fun g=>match g with|1=>some (.ar 64 .sc,.agg (bytesAV S03.dbl))|2=>some (.ar 64 .sc,.agg S03.kA)|3=>some (.ar 64 .sc,.agg S03.kA)|_=>none,S03.ri⟩
theorem tab3_ok :∀f fd,S03.tab f=some fd->FnOk Tryd.prog gl3 f fd:=fun f fd h=>fnOk_tbl (S03.tab_ok f fd h)
theorem glHasK :Nonempty (S03.H.GlK gl3):=⟨⟨rfl⟩⟩
theorem glHasR :Nonempty (S03.H.GlR gl3):=⟨⟨rfl⟩⟩
theorem glHasB :Nonempty (S03.GlB gl3):=⟨⟨rfl⟩⟩
abbrev laid3 :List (String×DataW Unit):=[("math/bits.deBruijn32tab",Rows.laid_math_bits_deBruijn32tab),("math/bits.deBruijn64tab",Rows.laid_math_bits_deBruijn64tab),("weirgate/weirgateref02.constants",Rows.laid_weirgate_weirgateref02_constants),("weirgate/hash.constants",Rows.laid_weirgate_hash_constants)]
theorem glOk3 {W:World}(h:laidMetH Tryd.prog laid3 W):TabOk W.heap gl3:=by
 have h:laidMet Tryd.prog laid3 W:=h
 refine glOk_laid h fun g sh a hg=> ?_
 match g,hg with
 | 0,hg=>cases hg
 | 1,hg =>
   obtain⟨rfl,rfl⟩:=Prod.mk.inj (Option.some.inj hg)
   exact⟨_,List.mem_cons_of_mem _ List.mem_cons_self,8,102,_,gBit,gBitT,kBit,rfl,avBit⟩
 | 2,hg =>
   obtain⟨rfl,rfl⟩:=Prod.mk.inj (Option.some.inj hg)
   exact⟨_,List.mem_cons_of_mem _ (List.mem_cons_of_mem _ (List.mem_cons_of_mem _ List.mem_cons_self)),8,123,_,gCon,gConT,kCon,rfl,avCon⟩
 | 3,hg =>
   obtain⟨rfl,rfl⟩:=Prod.mk.inj (Option.some.inj hg)
   exact⟨_,List.mem_cons_of_mem _ (List.mem_cons_of_mem _ List.mem_cons_self),8,123,_,gRef,gRefT,kCon,rfl,avRef⟩
 | _+4,hg=>cases hg
def conCells :Array Value:=(S03.kList.map fun x=>Value.int .u32 (x.toNat:Int)).toArray
def bit32Cells :Array Value:=([0,1,28,2,29,14,24,3,30,22,20,15,25,17,4,8,31,27,13,23,21,19,16,7,26,12,18,6,11,5,10,9]:List Int).map (fun x=>Value.int .u8 x) |>.toArray
def bit64Cells :Array Value:=(S03.dbl.map fun x=>Value.int .u8 (x.toNat:Int)).toArray
def put (vs:Array Value):Obj->Obj
 | .cells _ t frozen=>.cells vs t frozen
 | o=>o
noncomputable def laidWorld (os:Os):World :=
 {World.holding Tryd.prog os ⟨#[],#[],[]⟩with heap:=((((World.holding Tryd.prog os ⟨#[],#[],[]⟩).heap.modify 0 (put bit32Cells)).modify 1 (put bit64Cells)).modify 2 (put conCells)).modify 3 (put conCells)}
end Go.Proofs.YthelhoikbegjlaaDoor
