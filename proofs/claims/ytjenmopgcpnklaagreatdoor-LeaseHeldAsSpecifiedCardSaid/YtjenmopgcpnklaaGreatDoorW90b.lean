/-
  Chapter 4: rings. No condition.
-/
import Derived.Test.YtjenmopgcpnklaaGreatDoorW90a
set_option linter.unusedVariables false
set_option linter.unusedSimpArgs false
set_option linter.unusedSectionVars false
namespace Go.Proofs.S90
open Go Go.Ev Go.Proofs
variable {gl :Gl} {n:Nat}
theorem first_fail (p:Nat->Prop)(N:Nat):(∀i,i<N->p i)\/∃k,k<N/\(∀j,j<k->p j)/\¬p k:=by
 classical
 by_cases h:∀i,i<N->p i
 . exact .inl h
 . obtain⟨h1,h2,h3⟩:=fst_spec p N
   refine .inr ⟨fstN p N,?_⟩
   rcases Nat.lt_or_ge (fstN p N) N with h4|h4
   . exact⟨h4,h2,h3 h4⟩
   . exact absurd (fun i hi=>h2 i (by omega)) h
structure ROk (l:List Ky)(i:Nat):Prop where
 v:VK (yat l i)
 b:0<i->bef (yat l (i-1)) (yat l i)=true
theorem ROk_eq (l:List Ky)(i:Nat):ROk l i=(VK (yat l i)/\(0<i->bef (yat l (i-1)) (yat l i)=true)):=propext ⟨fun h=>⟨h.v,h.b⟩,fun h=>⟨h.1,h.2⟩⟩
structure VR (l:List Ky):Prop where
 n:l.length<=1000
 ok:∀i,i<l.length->ROk l i
def Sm (l:List Ky):Prop:=l.length<2^60/\∀i,i<l.length->(yat l i).k.length<=9223372036854775807
def L11 :MC:=match m4 with| .seq _ (.seq (.seq _ (.block _ (.loop _ b))) _)=>b|_=>.skip
def S11 (f:Bool)(m:Sh)(l:List Ky)(i:Nat):St:=⟨[.set 3 (i64 i),.set 0 (.lst f m (ks l))],[]⟩
set_option maxHeartbeats 2000000 in
theorem ring_at (h:2<=n){f:Bool}{m:Sh}{l:List Ky}(hm:Mk l m)(hl:Sm l) :
  ∃b:Bool,(b=true↔VR l)/\call gl tab n 4 [.lst f m (ks l)] []=some (.bool b,[],[]):=by
 obtain⟨d,rfl⟩:=Nat.exists_eq_add_of_le' h
 have hl1:=hl.1
 have hs:∀i,i<l.length->ROk l i->contK [.slot 0,.slot 3] (evC gl (call gl tab (d+1)) L11 (S11 f m l i))=some (S11 f m l (i+1)):=fun i hi ⟨p1,p2⟩=>by
  have hx:=ks_at hi
  obtain rfl:=hm.eq hi
  have c10:=@rvalid_at gl (d+1) (by omega) (yat l i) (hl.2 i hi)
  rw[decide_eq_true p1]at c10
  cases i with
  | zero=>simp(disch:=((fail_if_success (intro _));omega)) only[go_sem,simprocAttr,↓reduceIte,↓Nat.reduceEqDiff,xx,L11,m4,S11,ks_length,hx,c10]
  | succ i =>
    have hy:=ks_at (show i<l.length by omega)
    have c56:=@before_at gl (d+1) (by omega) (yat l i) (yat l (i+1))
    rw[show bef (yat l i) (yat l (i+1))=true from p2 (by omega)]at c56
    simp(disch:=((fail_if_success (intro _));omega)) only[go_sem,simprocAttr,↓reduceIte,↓Nat.reduceEqDiff,xx,L11,m4,S11,ks_length,hx,hy,c10,c56]
 have hf:∀i,i<l.length->¬ROk l i->out1 2 (evC gl (call gl tab (d+1)) L11 (S11 f m l i))=some (.ret,.bool false):=fun i hi hp=>by
  have hx:=ks_at hi
  obtain rfl:=hm.eq hi
  have c10:=@rvalid_at gl (d+1) (by omega) (yat l i) (hl.2 i hi)
  by_cases h1:VK (yat l i)
  . rw[decide_eq_true h1]at c10
    cases i with
    | zero=>exact absurd ⟨h1,fun h=>absurd h (Nat.lt_irrefl _)⟩ hp
    | succ i =>
      have hy:=ks_at (show i<l.length by omega)
      have c56:=@before_at gl (d+1) (by omega) (yat l i) (yat l (i+1))
      rw[show bef (yat l i) (yat l (i+1))=false by
       cases e:bef (yat l i) (yat l (i+1))with
       | false=>rfl
       | true=>exact absurd ⟨h1,fun _=>e⟩ hp]at c56
      simp(disch:=((fail_if_success (intro _));omega)) only[go_sem,simprocAttr,↓reduceIte,↓Nat.reduceEqDiff,xx,L11,m4,S11,ks_length,hx,hy,c10,c56]
  . rw[decide_eq_false h1]at c10
    simp(disch:=((fail_if_success (intro _));omega)) only[go_sem,simprocAttr,↓reduceIte,↓Nat.reduceEqDiff,xx,L11,m4,S11,ks_length,hx,c10]
 rw[call_go (fd:=fd4) rfl]
 rcases first_fail (ROk l) l.length with ha|⟨k,hk,hb',he⟩
 . refine⟨decide (l.length<=1000),?_,?_⟩
   . rw[decide_eq_true_eq]
     exact⟨fun h=>⟨h,ha⟩,fun h=>h.n⟩
   have hs2:=fun i hi=>hs i hi (ha i hi)
   simp only[L11,m4]at hs2
   simp(disch:=((fail_if_success (intro _));omega)) only[go_sem,simprocAttr,↓reduceIte,↓Nat.reduceEqDiff,xx,fd4,m4,ks_length]
   rw[iter_to (S11 f m l) l.length (by unfold LF;omega)]
   . simp(disch:=((fail_if_success (intro _));omega)) only[go_sem,simprocAttr,↓reduceIte,↓Nat.reduceEqDiff,xx,S11,ks_length]
   . simp(disch:=((fail_if_success (intro _));omega)) only[go_sem,simprocAttr,↓reduceIte,↓Nat.reduceEqDiff,xx,S11,ks_length]
   . exact hs2
   . simp(disch:=((fail_if_success (intro _));omega)) only[go_sem,simprocAttr,↓reduceIte,↓Nat.reduceEqDiff,xx,S11,ks_length]
 . obtain⟨st,hst,hg⟩:=out1_get (hf k hk he)
   have hs2:=fun i hi=>hs i (by omega) (hb' i hi)
   simp only[L11,m4]at hs2 hst
   refine⟨false,⟨(fun h=>by cases h),fun h=>absurd (h.ok k hk) he⟩,?_⟩
   simp(disch:=((fail_if_success (intro _));omega)) only[go_sem,simprocAttr,↓reduceIte,↓Nat.reduceEqDiff,xx,fd4,m4,ks_length]
   rw[iter_to (S11 f m l) k (by unfold LF;omega),hst]
   . simp(disch:=((fail_if_success (intro _));omega)) only[go_sem,simprocAttr,↓reduceIte,↓Nat.reduceEqDiff,xx,hg]
   . simp(disch:=((fail_if_success (intro _));omega)) only[go_sem,simprocAttr,↓reduceIte,↓Nat.reduceEqDiff,xx,S11,ks_length]
   . exact hs2
   . rw[hst];rfl
def lo (x:Ky)(p s:Int):Prop:=x.p<p\/x.p=p/\x.s<s
theorem VR.lt {l:List Ky}(hv:VR l){i:Nat}:∀{j:Nat},i<j->j<l.length->lo (yat l i) (yat l j).p (yat l j).s
 | j+1,hij,hj=>by
   have h1:=(hv.ok (j+1) hj).b (by omega)
   simp only[bef,decide_eq_true_eq,Nat.add_sub_cancel]at h1
   by_cases h:i=j
   . subst h;exact h1
   . have h2:=hv.lt (show i<j by omega) (by omega)
     unfold lo at *;omega
structure Pl (l:List Ky)(p s:Int)(k:Nat):Prop where
 le:k<=l.length
 lo:∀j,j<k->lo (yat l j) p s
 hi:∀j,k<=j->j<l.length->¬S90.lo (yat l j) p s
def cv (x:Ky)(p s:Int):Int:=if x.p=p then IntKind.wrap .i64 (x.s-s)else IntKind.wrap .i64 (x.p-p)
theorem wrap_0 {a:Int}(h1:-18446744073709551616<a)(h2:a<18446744073709551616)(h:IntKind.wrap .i64 a=0):a=0:=by
 simp only[IntKind.wrap,IntKind.bits,IntKind.signed,Bool.true_and]at h
 simp only[Nat.add_one_sub_one,Int.reducePow]at h
 split at h<;>simp_all<;>omega
def R64 (x:Int):Prop:=-9223372036854775808<=x/\x<=9223372036854775807
theorem cv_0 {x:Ky}(hx:VK x){p s:Int}(hp:R64 p)(hs:R64 s):cv x p s=0↔x.p=p/\x.s=s:=by
 have h1:=hx.p;have h2:=hx.s
 unfold R64 at *
 unfold cv
 by_cases h:x.p=p
 . rw[if_pos h]
   refine⟨fun e=>⟨h,?_⟩,fun⟨_,e⟩=> ?_⟩
   . have:=wrap_0 (by omega) (by omega) e;omega
   . rw[wrap_i64 (by omega) (by omega)];omega
 . rw[if_neg h]
   refine⟨fun e=> ?_,fun⟨e,_⟩=>absurd e h⟩
   have:=wrap_0 (by omega) (by omega) e;omega
theorem cv_lt {x:Ky}(hx:VK x){p s:Int}(hp:-4611686018427387904<=p/\p<=4611686018427387904)(hs:-4611686018427387904<=s/\s<=4611686018427387904):cv x p s<0↔lo x p s:=by
 have h1:=hx.p;have h2:=hx.s
 unfold cv lo
 by_cases h:x.p=p
 . rw[if_pos h,wrap_i64 (by omega) (by omega)];omega
 . rw[if_neg h,wrap_i64 (by omega) (by omega)];omega
theorem cmp_at (h:1<=n)(x:Ky)(p s:Int):call gl tab n 86 [ky x,i64 p,.ptr 100000 []] [(100000,.fix .sc (i64 s))]=some (i64 (cv x p s),[(100000,.fix .sc (i64 s))],[]):=by
 obtain⟨d,rfl⟩:=Nat.exists_eq_add_of_le' h
 rw[call_gen (fd:=fd86) rfl]
 unfold cv
 by_cases h1:x.p=p
 . have h2:(x.p != p)=false:=by rw[h1];exact bne_self_eq_false p
   rw[if_pos h1]
   simp(disch:=((fail_if_success (intro _));omega)) only[go_sem,simprocAttr,↓reduceIte,↓Nat.reduceEqDiff,xx,fd86,m86,h2]
 . have h2:(x.p != p)=true:=by simpa using h1
   rw[if_neg h1]
   simp(disch:=((fail_if_success (intro _));omega)) only[go_sem,simprocAttr,↓reduceIte,↓Nat.reduceEqDiff,xx,fd86,m86,h2]
end Go.Proofs.S90
