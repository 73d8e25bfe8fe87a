/-
  Chapter 30: grants are as specified. No condition.
-/
import Derived.Test.YtjenmopgcpnklaaDoorW30W
import Derived.Test.YtjenmopgcpnklaaDoorW30G2x3
import Derived.Test.YtjenmopgcpnklaaDoorCards
import Derived.Test.YtjenmopgcpnklaaDoorTie
import Derived.ProofKit
import Derived.OpenShut
import Derived.Deep.DeepHandedRow
import Derived.Lib.LaidTab
import Derived.MakeChecks
set_option linter.unusedVariables false
set_option linter.unusedSimpArgs false
set_option linter.unusedSectionVars false
namespace Go.Proofs.S30.G
open Go Go.Ev Go.Proofs
open Go.Proofs.S30.H (GlK GlR)
variable {gl :Gl} {n:Nat}
structure PG (t m:Int)(l:List Gt)(f f':Bool)(sh sh':Sh):Prop where
 a:Mg l sh
 b:Mg l sh'
 n:l.length<=1000000
section
variable {t m:Int} {l:List Gt} {a e lo hi len:Int} {k:Ky}
theorem new_pair (h:12<=n)(m:Int):∃t' m' l' f f' sh sh' c,PG t' m' l' f f' sh sh'/\call gl tab n 8 [i64 m] []=some (.tup [gAV t' m' f sh l',i64 c],[],[])/\call gl tab n 14 [i64 m] []=some (.agg [gAV t' m' f' sh' l',i64 c],[],[]):=by
 have c1:=new_at (gl:=gl) (n:=n) (by omega) m
 have c2:=rnew_at (gl:=gl) (n:=n) (by omega) m
 by_cases hm:1<=m/\m<=3600000
 . rw[if_pos hm]at c1 c2
   exact⟨0,m,[],true,true,.sc,.sc,0,⟨.inl rfl,.inl rfl,by simp⟩,c1,c2⟩
 . rw[if_neg hm]at c1 c2
   exact⟨0,0,[],true,true,.sc,.sc,1,⟨.inl rfl,.inl rfl,by simp⟩,c1,c2⟩
theorem issue_pair (h:12<=n)(hl:l.length<=900):∃t' m' l' f f' sh sh' c,PG t' m' l' f f' sh sh'/\call gl tab n 9 [gAV t m false sG l] []=some (.tup [gAV t' m' f sh l',i64 c],[],[])/\call gl tab n 15 [gAV t m false sG l] []=some (.agg [gAV t' m' f' sh' l',i64 c],[],[]):=by
 by_cases hv:VG t m l
 . by_cases ht:t=1099511627776
   . exact⟨0,0,[],true,true,.sc,.sc,2,⟨.inl rfl,.inl rfl,by simp⟩,issue_lim (by omega) (.inr rfl) (by omega) hv ht,rissue_lim (by omega) (.inr rfl) (by omega) hv ht⟩
   . exact⟨t+1,m,l,false,false,sG,sG,0,⟨.inr rfl,.inr rfl,by omega⟩,issue_ok (by omega) (.inr rfl) (by omega) hv ht,rissue_ok (by omega) (.inr rfl) (by omega) hv ht⟩
 . exact⟨0,0,[],true,true,.sc,.sc,1,⟨.inl rfl,.inl rfl,by simp⟩,issue_bad (by omega) (.inr rfl) (by omega) hv,rissue_bad (by omega) (.inr rfl) (by omega) hv⟩
theorem confirm_pair (h:12<=n)(hl:l.length<=900):∃t' m' l' f f' sh sh' c,PG t' m' l' f f' sh sh'/\call gl tab n 10 [gAV t m false sG l,i64 a,i64 e] []=some (.tup [gAV t' m' f sh l',i64 c],[],[])/\call gl tab n 16 [gAV t m false sG l,i64 a,i64 e] []=some (.agg [gAV t' m' f' sh' l',i64 c],[],[]):=by
 by_cases hb:VG t m l/\isSite a=true/\0<=e/\e<=t
 . obtain⟨hv,hs,h1,h2⟩:=hb
   by_cases h3:e<=(findG l a).h
   . exact⟨t,m,l,false,false,sG,sG,0,⟨.inr rfl,.inr rfl,by omega⟩,confirm_old (by omega) (.inr rfl) (by omega) hv hs h1 h2 h3,rconfirm_old (by omega) (.inr rfl) (by omega) hv hs h1 h2 h3⟩
   . have:=putL_len l ⟨a,e,(findG l a).u⟩
     exact⟨t,m,_,false,false,sG,sG,0,⟨.inr rfl,.inr rfl,by omega⟩,confirm_new (by omega) (.inr rfl) (by omega) hv hs h1 h2 (by omega),rconfirm_new (by omega) (.inr rfl) (by omega) hv hs h1 h2 (by omega)⟩
 . exact⟨0,0,[],true,true,.sc,.sc,1,⟨.inl rfl,.inl rfl,by simp⟩,confirm_bad (by omega) (.inr rfl) (by omega) hb,rconfirm_bad (by omega) (.inr rfl) (by omega) hb⟩
def zLe0 :Le:=⟨0,0,0,0,zB⟩
theorem grant_pair [Nonempty (GlK gl)][Nonempty (GlR gl)](h:12<=n)(hl:l.length<=900)(hk:k.k.length<=9223372036854775807) :
  ∃t' m' l' f f' sh sh' c,∃x:Le,PG t' m' l' f f' sh sh'/\x.sgn.length=16 /\
   call gl tab n 11 [gAV t m false sG l,ky k,i64 a,.agg [i64 lo,i64 hi],i64 len] []=some (.tup [gAV t' m' f sh l',leAV x,i64 c],[],[]) /\
   call gl tab n 17 [gAV t m false sG l,ky k,i64 a,.agg [i64 lo,i64 hi],i64 len] []=some (.agg [gAV t' m' f' sh' l',leAV x,i64 c],[],[]):=by
 have z0:∀c,(∃t' m' l' f f' sh sh' c',∃x:Le,PG t' m' l' f f' sh sh'/\x.sgn.length=16/\(AV.tup [zG,zL,i64 c],AV.agg [zG,zL,i64 c])=(AV.tup [gAV t' m' f sh l',leAV x,i64 c'],AV.agg [gAV t' m' f' sh' l',leAV x,i64 c'])):=fun c =>
  ⟨0,0,[],true,true,.sc,.sc,c,zLe0,⟨.inl rfl,.inl rfl,by simp⟩,rfl,rfl⟩
 by_cases ok:GOk t m l a k lo hi len
 . obtain⟨a1,a2⟩:=grant_lo (gl:=gl) (n:=n) (f:=false) (sh:=sG) (by omega) (.inr rfl) (by omega) ok
   obtain⟨b1,b2⟩:=rgrant_lo (gl:=gl) (n:=n) (f:=false) (sh:=sG) (by omega) (.inr rfl) (by omega) ok
   by_cases g1:t<=(findG l a).h
   . by_cases g2:lo+len<=1099511627776
     . obtain⟨r1,r2⟩:=rgrant_ok (gl:=gl) (n:=n) (f:=false) (sh:=sG) (by omega) (.inr rfl) (by omega) ok g1 g2
       have hc:=ok.c
       unfold CV at hc
       have n1:=ok.n1
       have hle:=leG_ok ok.s ok.v (lo+len) (by omega)
       have q1:(leG k a t (lo+len)).sgn.length=16:=(leS_ok ok.kv.ok hle).s
       by_cases g3:lo+len<=(findG l a).u
       . exact⟨t,m,l,false,false,sG,sG,0,leG k a t (lo+len),⟨.inr rfl,.inr rfl,by omega⟩,q1,grant_old (by omega) (.inr rfl) (by omega) ok g1 g2 g3,r1 g3⟩
       . have:=putL_len l ⟨a,(findG l a).h,lo+len⟩
         exact⟨t,m,_,false,false,sG,sG,0,leG k a t (lo+len),⟨.inr rfl,.inr rfl,by omega⟩,q1,grant_new (by omega) (.inr rfl) (by omega) ok g1 g2 (by omega),r2 (by omega)⟩
     . exact⟨0,0,[],true,true,.sc,.sc,2,zLe0,⟨.inl rfl,.inl rfl,by simp⟩,rfl,a2 g1 (by omega),b2 g1 (by omega)⟩
   . exact⟨0,0,[],true,true,.sc,.sc,4,zLe0,⟨.inl rfl,.inl rfl,by simp⟩,rfl,a1 (by omega),b1 (by omega)⟩
 . exact⟨0,0,[],true,true,.sc,.sc,1,zLe0,⟨.inl rfl,.inl rfl,by simp⟩,rfl,grant_bad (by omega) (.inr rfl) (by omega) hk ok,rgrant_bad (by omega) (.inr rfl) (by omega) hk ok⟩
theorem dead_pair (h:12<=n)(hl:l.length<=900):∃w c,call gl tab n 12 [gAV t m false sG l,i64 e] []=some (.tup [i64 w,i64 c],[],[])/\call gl tab n 18 [gAV t m false sG l,i64 e] []=some (.agg [i64 w,i64 c],[],[]):=by
 by_cases hb:VG t m l/\1<=e/\e<=t
 . exact⟨_,0,dead_ok (by omega) (.inr rfl) (by omega) hb.1 hb.2.1 hb.2.2,rdead_ok (by omega) (.inr rfl) (by omega) hb.1 hb.2.1 hb.2.2⟩
 . exact⟨0,1,dead_bad (by omega) (.inr rfl) (by omega) hb,rdead_bad (by omega) (.inr rfl) (by omega) hb⟩
theorem wait_pair (h:12<=n)(hl:l.length<=900):∃(w:List Int) (f:Bool) (sh:Sh) (c:Int),Mi w sh/\w.length<=1000000/\call gl tab n 13 [gAV t m false sG l,i64 e,.agg [i64 lo,i64 hi]] []=some (.tup [.lst f sh (ints w),i64 c],[],[])/\call gl tab n 19 [gAV t m false sG l,i64 e,.agg [i64 lo,i64 hi]] []=some (.agg [.lst f sh (ints w),i64 c],[],[]):=by
 by_cases hb:VG t m l/\1<=e/\e<=t/\CV lo hi
 . obtain⟨h1,h2,h3,h4⟩:=hb
   refine⟨_,false,.sc,0,.inr rfl,?_,wait_ok (by omega) (.inr rfl) (by omega) h1 h2 h3 h4,rwait_ok (by omega) (.inr rfl) (by omega) h1 h2 h3 h4⟩
   have a1:=wai_le lo (df e l) (df e l).length
   have a2:(df e l).length<=l.length:=List.length_filter_le _ _
   omega
 . exact⟨[],true,.sc,1,.inl rfl,by simp,wait_bad (by omega) (.inr rfl) (by omega) hb,rwait_bad (by omega) (.inr rfl) (by omega) hb⟩
end
theorem law3 [Nonempty (GlK gl)][Nonempty (GlR gl)](hn:20<=n)(ar:List AV)(h:HasKds [kGs,kKy,kI,kI,kPe,kI] ar):call gl tab (n+1) 3 ar []=some (.bool true,[],[]):=by
 simp only[HasKds]at h
 obtain⟨_,_,rfl,h1,_,_,rfl,h2,_,_,rfl,h3,_,_,rfl,h4,_,_,rfl,h5,_,_,rfl,h6,rfl⟩:=h
 obtain⟨t,m,l,rfl,ht,hm,hl0⟩:=kd_gs h1
 obtain⟨k,rfl,hp,hs,hk⟩:=kd_ky h2
 obtain⟨a,rfl,ha⟩:=kd_i h3
 obtain⟨e,rfl,he⟩:=kd_i h4
 obtain⟨lo,hi,rfl,hlo,hhi⟩:=kd_pe h5
 obtain⟨len,rfl,hlen⟩:=kd_i h6
 clear h1 h2 h3 h4 h5 h6
 have c7:=@sanity_at gl n _ hn
 have hL:=gs_length l
 by_cases g1:l.length<=70
 case neg=>rw[call_go (fd:=fd3) rfl];simp(disch:=((fail_if_success (intro _));omega)) only[go_sem,simprocAttr,↓reduceIte,↓Nat.reduceEqDiff,xx,fd3,m3,c7,hL,↓out16_eq]
 by_cases g2:k.k.length<=100
 case neg=>rw[call_go (fd:=fd3) rfl];simp(disch:=((fail_if_success (intro _));omega)) only[go_sem,simprocAttr,↓reduceIte,↓Nat.reduceEqDiff,xx,fd3,m3,c7,hL,↓out16_eq]
 obtain⟨t1,m1,l1,f1,f1',s1,s1',c1,p1,x1,y1⟩:=new_pair (gl:=gl) (n:=n) (by omega) m
 obtain⟨t2,m2,l2,f2,f2',s2,s2',c2,p2,x2,y2⟩:=issue_pair (gl:=gl) (n:=n) (t:=t) (m:=m) (l:=l) (by omega) (by omega)
 obtain⟨t3,m3',l3,f3,f3',s3,s3',c3,p3,x3,y3⟩:=confirm_pair (gl:=gl) (n:=n) (t:=t) (m:=m) (l:=l) (a:=a) (e:=e) (by omega) (by omega)
 obtain⟨t4,m4',l4,f4,f4',s4,s4',c4,le,p4,q4,x4,y4⟩:=grant_pair (gl:=gl) (n:=n) (t:=t) (m:=m) (l:=l) (a:=a) (lo:=lo) (hi:=hi) (len:=len) (k:=k) (by omega) (by omega) hk
 obtain⟨w5,c5,x5,y5⟩:=dead_pair (gl:=gl) (n:=n) (t:=t) (m:=m) (l:=l) (e:=e) (by omega) (by omega)
 obtain⟨w6,f6,s6,c6,i6,j6,x6,y6⟩:=wait_pair (gl:=gl) (n:=n) (t:=t) (m:=m) (l:=l) (e:=e) (lo:=lo) (hi:=hi) (by omega) (by omega)
 have v1:=@valid_at gl n (by omega) t m false sG l (.inr rfl) (by omega)
 have v2:=@rvalid_at gl n (by omega) t m false sG l (.inr rfl) (by omega)
 have z1:=@same_at gl n (by omega) t1 m1 f1 f1' s1 s1' l1 p1.a p1.b p1.n
 have z2:=@same_at gl n (by omega) t2 m2 f2 f2' s2 s2' l2 p2.a p2.b p2.n
 have z3:=@same_at gl n (by omega) t3 m3' f3 f3' s3 s3' l3 p3.a p3.b p3.n
 have z4:=@same_at gl n (by omega) t4 m4' f4 f4' s4 s4' l4 p4.a p4.b p4.n
 have z6:=@sames_at gl n (by omega) f6 f6 s6 s6 w6 i6 i6 j6
 have eL:=eqL le.site le.ep le.til le.ser q4
 have b1:=H.bytes_all le.sgn
 have e1:=beq_self_eq_true c1
 have e2:=beq_self_eq_true c2
 have e3:=beq_self_eq_true c3
 have e4:=beq_self_eq_true c4
 have e5:=beq_self_eq_true c5
 have e6:=beq_self_eq_true c6
 have e7:=beq_self_eq_true w5
 simp only[leAV,bAV]at x4 y4
 clear p1 p2 p3 p4
 rw[call_go (fd:=fd3) rfl]
 cases hV:decide (VG t m l)<;>rw[hV]at v1 v2<;>simp(maxSteps:=1000000) (implicitDefEqProofs:=false) (disch:=((fail_if_success (intro _));omega)) only[go_sem,simprocAttr,↓reduceIte,↓Nat.reduceEqDiff,xx,fd3,m3,c7,hL,↓out16_eq,H.out16_len,H.out16_all,H.out16_pl,x1,y1,x2,y2,x3,y3,x4,y4,x5,y5,x6,y6,v1,v2,z1,z2,z3,z4,z6,eL,q4,b1,e1,e2,e3,e4,e5,e6,e7]
end Go.Proofs.S30.G
namespace Go.Proofs.YtjenmopgcpnklaaDoor
open Go Go.Ev Go.Proofs Go.ChangeShapes Go.WideShapes Go.ChangeAt Go.RowKit
theorem own :ownKnob Tryd.prog.godebug=none:=by kernel_rfl
theorem gCon :Tryd.prog.globalNamed "weirgate/hash.constants" =some 1:=by kernel_rfl
theorem gRef :Tryd.prog.globalNamed "weirgate/weirgateref02.constants" =some 0:=by kernel_rfl
theorem gConT :(Tryd.prog.globals[1]?).map (·.type)=some 165:=by kernel_rfl
theorem gRefT :(Tryd.prog.globals[0]?).map (·.type)=some 165:=by kernel_rfl
theorem kCon :kdOf Tryd.prog 8 165=some (.ar 64 (.int .u32)):=by kernel_rfl
theorem avCon :AV.agg S30.kA=avD (H:=Unit) (.ar 64 (.int .u32)) Rows.laid_weirgate_hash_constants:=by kernel_rfl
theorem avRef :AV.agg S30.kA=avD (H:=Unit) (.ar 64 (.int .u32)) Rows.laid_weirgate_weirgateref02_constants:=by kernel_rfl
theorem laidOk :laidOutB Tryd.prog=true:=by kernel_rfl
abbrev laid2 :List (String×DataW Unit):=[("weirgate/weirgateref02.constants",Rows.laid_weirgate_weirgateref02_constants),("weirgate/hash.constants",Rows.laid_weirgate_hash_constants)]
theorem glOk2 {W:World}(h:laidMetH Tryd.prog laid2 W):TabOk W.heap S30.glS:=by
 have h:laidMet Tryd.prog laid2 W:=h
 refine glOk_laid h fun g sh a hg=> ?_
 match g,hg with
 | 0,hg =>
   obtain⟨rfl,rfl⟩:=Prod.mk.inj (Option.some.inj hg)
   exact⟨_,List.mem_cons_self,8,165,_,gRef,gRefT,kCon,rfl,avRef⟩
 | 1,hg =>
   obtain⟨rfl,rfl⟩:=Prod.mk.inj (Option.some.inj hg)
   exact⟨_,List.mem_cons_of_mem _ List.mem_cons_self,8,165,_,gCon,gConT,kCon,rfl,avCon⟩
 | _+2,hg=>cases hg
theorem glHasK :Nonempty (S30.H.GlK S30.glS):=⟨⟨rfl⟩⟩
theorem glHasR :Nonempty (S30.H.GlR S30.glS):=⟨⟨rfl⟩⟩
theorem fnOk_tbl {P:Program}{t t':Nat->Option (Sh×AV)}{ri:Nat->Option RInfo}{f:Nat}{fd:Ev.Fd}(h:FnOk P ⟨t,ri⟩ f fd):FnOk P ⟨t',ri⟩ f fd:=by
 cases h with
 | code h hlt ok=>exact .code h hlt ⟨ok.ok⟩
 | given g h hlt ok=>exact .given g h hlt ok
 | round rid ps sl ma mb hf h ok=>exact .round rid ps sl ma mb hf h ⟨ok.ok⟩
 | dfr D h hlt ok =>
   obtain⟨fn,codes,id,ops,cB,an,im,o,c,h1,h2,h3,h4,h5,h6,h7,h8,h9,h10,h11,h12,h13,h14,h15,h16,h17,fc⟩:=ok.ok
   exact .dfr D h hlt ⟨fn,codes,id,ops,cB,an,im,o,c,h1,h2,h3,h4,h5,h6,h7,h8,h9,h10,h11,h12,h13,h14,h15,h16,h17,⟨fc.ok⟩⟩
noncomputable def gl1:Gl:=⟨fun g=>match g with|1=>some (.ar 64 .sc,.agg S30.kA)|_=>none,S30.ri⟩
theorem tab1_ok :∀f fd,S30.tab f=some fd->FnOk Tryd.prog gl1 f fd:=fun f fd h=>fnOk_tbl (S30.tab_ok f fd h)
theorem glHas1 :Nonempty (S30.H.GlK gl1):=⟨⟨rfl⟩⟩
abbrev laid1 :List (String×DataW Unit):=[("weirgate/hash.constants",Rows.laid_weirgate_hash_constants)]
theorem glOk1 {W:World}(h:laidMetH Tryd.prog laid1 W):TabOk W.heap gl1:=by
 have h:laidMet Tryd.prog laid1 W:=h
 refine glOk_laid h fun g sh a hg=> ?_
 match g,hg with
 | 0,hg=>cases hg
 | 1,hg =>
   obtain⟨rfl,rfl⟩:=Prod.mk.inj (Option.some.inj hg)
   exact⟨_,List.mem_cons_self,8,165,_,gCon,gConT,kCon,rfl,avCon⟩
 | _+2,hg=>cases hg
def conCells :Array Value:=(S30.kList.map fun x=>Value.int .u32 (x.toNat:Int)).toArray
def put (vs:Array Value):Obj->Obj
 | .cells _ t frozen=>.cells vs t frozen
 | o=>o
noncomputable def laidWorld (os:Os):World :=
 {World.holding Tryd.prog os ⟨#[],#[],[]⟩with heap:=((World.holding Tryd.prog os ⟨#[],#[],[]⟩).heap.modify 0 (put conCells)).modify 1 (put conCells)}
end Go.Proofs.YtjenmopgcpnklaaDoor
