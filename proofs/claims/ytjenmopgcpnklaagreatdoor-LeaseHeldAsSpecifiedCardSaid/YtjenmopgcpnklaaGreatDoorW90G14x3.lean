/-
  Chapter 4: records are sealed, in both. No condition.
-/
import Derived.Test.YtjenmopgcpnklaaGreatDoorW90G13x3
import Derived.Test.YtjenmopgcpnklaaGreatDoorEvY
set_option linter.unusedVariables false
set_option linter.unusedSimpArgs false
set_option linter.unusedSectionVars false
namespace Go.Proofs.S90
open Go Go.Ev Go.Proofs
open Go.Proofs.S90.H (strsAV strsAV_length strsAV_get Sml GlK GlR zints Few64 nsI)
variable {gl :Gl} {n:Nat}
theorem R64.few {a:Int}(h:R64 a):-9223372036854775808<=a/\a<=9223372036854775807:=h
theorem zints_le {l:List Int}(h:l.length<=1000):(zints l).length<=1048576:=by have:=@H.zints_len l;omega
structure KOk (k:Ky):Prop where
 p:R64 k.p
 s:R64 k.s
 k:k.k.length<=1048576
theorem VK.ok {k:Ky}(h:VK k):KOk k:=⟨R64.of h.p,R64.of h.s,by have:=h.k;omega⟩
theorem few_cons {a:Int}{l:List Int}(h:Few64 (a::l)):R64 a/\Few64 l:=⟨h.2 a (by simp),by have:=h.1;simp at this;omega,fun x hx=>h.2 x (by simp[hx])⟩
theorem few_mk {a:Int}{l:List Int}(h1:R64 a)(h2:Few64 l)(h3:l.length<1000):Few64 (a::l):=⟨by simp;omega,fun x hx=>by
 simp only[List.mem_cons]at hx
 rcases hx with rfl|hx
 . exact h1
 . exact h2.2 x hx⟩
theorem few_nil :Few64 []:=⟨by simp,fun x hx=>by simp at hx⟩
def leK (k:Ky)(x:Le):Le:=⟨x.site,x.ep,x.til,k.s,x.sgn⟩
def leS (k:Ky)(x:Le):Le:=⟨x.site,x.ep,x.til,k.s,sea k.k 43 (leP (leK k x))⟩
theorem leK_ok {k:Ky}(hk:KOk k){x:Le}(h:LeOk x):LeOk (leK k x):=by
 obtain⟨a1,h1⟩:=few_cons h.i
 obtain⟨a2,h2⟩:=few_cons h1
 obtain⟨a3,h3⟩:=few_cons h2
 exact⟨few_mk a1 (few_mk a2 (few_mk a3 (few_mk hk.s few_nil (by simp)) (by simp)) (by simp)) (by simp),h.s⟩
theorem leS_ok {k:Ky}(hk:KOk k){x:Le}(h:LeOk x):LeOk (leS k x):=⟨(leK_ok hk h).i,sea_len _ _ _⟩
theorem leP_pts (x:Le):Pts (leP x):=⟨by simp[leP],fun y hy=>by
 simp only[leP,List.mem_cons,List.not_mem_nil,or_false]at hy
 subst hy;exact zints_le (by simp)⟩
def zLe :AV:=.agg [i64 0,i64 0,i64 0,i64 0,.agg H.out16l]
theorem leSd_at [Nonempty (GlK gl)](h:9<=n){k:Ky}(hk:KOk k)(tag:Int)(x:Le)(hx:LeOk x):call gl tab n 57 [ky k,i64 tag,leAV x,.fn 43 []] []=some (.agg (sAV k.k tag (leP x)),[],[]):=by
 obtain⟨d,rfl⟩:=Nat.exists_eq_add_of_le' h
 have c1:=@leP_at gl (d+8) (by omega) x hx
 have c2:=@make_at gl (d+8) _ (by omega) k hk.k tag false (leP x) (leP_pts _)
 have q0:=H.bytes_all x.sgn
 have d1:=sAV_len k.k tag (leP x)
 have d2:=sAV_all k.k tag (leP x)
 have d3:=sAV_pl k.k tag (leP x)
 generalize sAV k.k tag (leP x)=z at *
 generalize strsAV (leP x)=w at *
 rw[call_go (fd:=fd57) rfl]
 simp(implicitDefEqProofs:=false) (disch:=((fail_if_success (intro _));omega)) only[go_sem,simprocAttr,↓reduceIte,↓Nat.reduceEqDiff,xx,fd57,m57,c1,c2,hx.s,q0,d1,d2,d3,↓out16_eq,H.out16_len,H.out16_all,H.out16_pl]
theorem leS_at [Nonempty (GlK gl)](h:10<=n){k:Ky}(hk:KOk k)(x:Le)(hx:LeOk x):call gl tab n 39 [ky k,leAV x] []=some (leAV (leS k x),[],[]):=by
 obtain⟨d,rfl⟩:=Nat.exists_eq_add_of_le' h
 have c1:=@leSd_at gl (d+9) _ (by omega) k hk 43 _ (leK_ok hk hx)
 have q0:=H.bytes_all x.sgn
 have d1:=sAV_len k.k 43 (leP (leK k x))
 have d2:=sAV_all k.k 43 (leP (leK k x))
 have d3:=sAV_pl k.k 43 (leP (leK k x))
 have e1:bytesAV (sea k.k 43 (leP (leK k x)))=sAV k.k 43 (leP (leK k x)):=rfl
 unfold leS
 simp only[leAV,leK,bAV,e1]at c1 d1 d2 d3 ⊢
 simp only[leK,bAV]at e1
 rw[e1]
 generalize sAV k.k 43 _=z at *
 rw[call_go (fd:=fd39) rfl]
 simp(implicitDefEqProofs:=false) (disch:=((fail_if_success (intro _));omega)) only[go_sem,simprocAttr,↓reduceIte,↓Nat.reduceEqDiff,xx,fd39,m39,c1,hx.s,q0,d1,d2,d3,↓out16_eq,H.out16_len,H.out16_all,H.out16_pl]
end Go.Proofs.S90
namespace Go.Proofs.S90
open Go Go.Ev Go.Proofs
open Go.Proofs.S90.H (strsAV strsAV_length strsAV_get Sml GlK GlR zints Few64 nsI)
variable {gl :Gl} {n:Nat}
def isSite (a:Int):Bool:=decide (0<=a/\a<64)
theorem site_at (h:1<=n)(a:Int):call gl tab n 41 [i64 a] []=some (.bool (isSite a),[],[]):=by
 obtain⟨d,rfl⟩:=Nat.exists_eq_add_of_le' h
 rw[call_go (fd:=fd41) rfl]
 unfold isSite
 by_cases h1:0<=a
 . by_cases h2:a<64
   . rw[decide_eq_true ⟨h1,h2⟩];simp(disch:=((fail_if_success (intro _));omega)) only[go_sem,simprocAttr,↓reduceIte,↓Nat.reduceEqDiff,xx,fd41,m41]
   . rw[decide_eq_false fun h=>h2 h.2];simp(disch:=((fail_if_success (intro _));omega)) only[go_sem,simprocAttr,↓reduceIte,↓Nat.reduceEqDiff,xx,fd41,m41]
 . rw[decide_eq_false fun h=>h1 h.1];simp(disch:=((fail_if_success (intro _));omega)) only[go_sem,simprocAttr,↓reduceIte,↓Nat.reduceEqDiff,xx,fd41,m41]
theorem rsite_at (h:1<=n)(a:Int):call gl tab n 46 [i64 a] []=some (.bool (isSite a),[],[]):=by
 obtain⟨d,rfl⟩:=Nat.exists_eq_add_of_le' h
 rw[call_go (fd:=fd46) rfl]
 unfold isSite
 by_cases h1:0<=a
 . by_cases h2:a<64
   . rw[decide_eq_true ⟨h1,h2⟩];simp(disch:=((fail_if_success (intro _));omega)) only[go_sem,simprocAttr,↓reduceIte,↓Nat.reduceEqDiff,xx,fd46,m46]
   . rw[decide_eq_false fun h=>h2 h.2];simp(disch:=((fail_if_success (intro _));omega)) only[go_sem,simprocAttr,↓reduceIte,↓Nat.reduceEqDiff,xx,fd46,m46]
 . rw[decide_eq_false fun h=>h1 h.1];simp(disch:=((fail_if_success (intro _));omega)) only[go_sem,simprocAttr,↓reduceIte,↓Nat.reduceEqDiff,xx,fd46,m46]
theorem r64_1 :R64 1:=by unfold R64;omega
def leC (l:List Ky)(x:Le):Int:=if isSite x.site=true then(if 1<=x.til then ckE l 1 x.ser 43 (leP x) x.sgn (x.til-1) (x.til-1)else ckE l 1 x.ser 43 (leP x) x.sgn (-1) 0)else 1
theorem LeOk.g {x:Le}(h:LeOk x):R64 x.ser:=h.i.2 _ (by simp)
theorem LeOk.u {x:Le}(h:LeOk x):R64 x.til:=h.i.2 _ (by simp)
section
variable {f :Bool} {m:Sh} {l:List Ky}
theorem leC_at [Nonempty (GlK gl)](h:11<=n)(hm:Mk l m)(hv:VR l)(x:Le)(hx:LeOk x):call gl tab n 25 [.lst f m (ks l),leAV x] []=some (i64 (leC l x),[],[]):=by
 obtain⟨d,rfl⟩:=Nat.exists_eq_add_of_le' h
 have c0:=@site_at gl (d+10) (by omega) x.site
 have q0:=H.bytes_all x.sgn
 have hu:=hx.u
 unfold R64 at hu
 unfold leC
 by_cases hsi:isSite x.site=true
 . rw[hsi]at c0
   rw[if_pos hsi]
   have c1:=@leP_at gl (d+10) (by omega) x hx
   by_cases ht:1<=x.til
   . rw[if_pos ht]
     have c2:=@check_at gl (d+10) f m l _ _ _ _ false _ (by omega) hm hv r64_1 hx.g 43 (leP_pts x) hx.s (x.til-1) (x.til-1)
     generalize ckE _ _ _ _ _ _ _ _=z at *
     generalize strsAV (leP x)=w at *
     rw[call_go (fd:=fd25) rfl]
     simp(implicitDefEqProofs:=false) (disch:=((fail_if_success (intro _));omega)) only[go_sem,simprocAttr,↓reduceIte,↓Nat.reduceEqDiff,xx,fd25,m25,c0,c1,c2,hx.s,q0]
   . rw[if_neg ht]
     have c2:=@check_at gl (d+10) f m l _ _ _ _ false _ (by omega) hm hv r64_1 hx.g 43 (leP_pts x) hx.s (-1) 0
     generalize ckE _ _ _ _ _ _ _ _=z at *
     generalize strsAV (leP x)=w at *
     rw[call_go (fd:=fd25) rfl]
     simp(implicitDefEqProofs:=false) (disch:=((fail_if_success (intro _));omega)) only[go_sem,simprocAttr,↓reduceIte,↓Nat.reduceEqDiff,xx,fd25,m25,c0,c1,c2,hx.s,q0]
 . rw[if_neg hsi]
   rw[Bool.not_eq_true]at hsi
   rw[hsi]at c0
   rw[call_go (fd:=fd25) rfl]
   simp(implicitDefEqProofs:=false) (disch:=((fail_if_success (intro _));omega)) only[go_sem,simprocAttr,↓reduceIte,↓Nat.reduceEqDiff,xx,fd25,m25,c0,hx.s,q0]
theorem ckE_off {p s tag:Int}{ps:List (List UInt8)}{sl:List UInt8}{lo hi:Int}(hv:VR l)(h:lo<0\/1099511627776<=hi):ckE l p s tag ps sl lo hi=match fnK l p s with|none=>5|some _=>9:=by
 unfold ckE
 cases hf:fnK l p s with
 | none=>rfl
 | some x =>
   have hx:x∈l:=List.mem_of_find?_eq_some hf
   obtain⟨i,hi',rfl⟩:=List.getElem_of_mem hx
   have v:=(hv.ok i hi').v.t
   rw[yat_eq hi']at v
   have hc:cnt l[i] lo hi=false:=by unfold cnt;rw[decide_eq_false_iff_not];omega
   simp only[hc,Bool.false_eq_true,if_false]
theorem rleC_at [Nonempty (GlR gl)](h:11<=n)(hm:Mk l m)(hv:VR l)(x:Le)(hx:LeOk x):call gl tab n 29 [.lst f m (ks l),leAV x] []=some (i64 (leC l x),[],[]):=by
 obtain⟨d,rfl⟩:=Nat.exists_eq_add_of_le' h
 have c0:=@rsite_at gl (d+10) (by omega) x.site
 have q0:=H.bytes_all x.sgn
 have hu:=hx.u
 unfold R64 at hu
 unfold leC
 by_cases hsi:isSite x.site=true
 . rw[hsi]at c0
   rw[if_pos hsi]
   by_cases ht:1<=x.til/\x.til<=1099511627776
   . obtain⟨ht,ht2⟩:=ht
     rw[if_pos ht]
     have c1:=@rleP_at gl (d+10) (by omega) x hx
     have c2:=@rcheck_at gl (d+10) f m l _ _ _ _ false _ (by omega) hm hv r64_1 hx.g 43 (leP_pts x) hx.s (x.til-1) (x.til-1)
     generalize ckE _ _ _ _ _ _ _ _=z at *
     generalize strsAV (leP x)=w at *
     rw[call_go (fd:=fd29) rfl]
     simp(implicitDefEqProofs:=false) (disch:=((fail_if_success (intro _));omega)) only[go_sem,simprocAttr,↓reduceIte,↓Nat.reduceEqDiff,xx,fd29,m29,c0,c1,c2,hx.s,q0]
   . have e:(if 1<=x.til then ckE l 1 x.ser 43 (leP x) x.sgn (x.til-1) (x.til-1)else ckE l 1 x.ser 43 (leP x) x.sgn (-1) 0)=match fnK l 1 x.ser with|none=>5|some _=>9:=by
      by_cases ht1:1<=x.til
      . rw[if_pos ht1];exact ckE_off hv (.inr (by omega))
      . rw[if_neg ht1];exact ckE_off hv (.inl (by omega))
     rw[e]
     have hg:1099511627776<x.til\/x.til<1:=by omega
     rcases @rfinds gl (d+10) (by omega) f m l hm hv 1 x.ser r64_1 hx.g with ⟨k,hk,c17⟩|⟨hno,c17⟩
     . rw[fnK_is hv hk]
       rw[call_go (fd:=fd29) rfl]
       rcases hg with hg|hg
       . simp(disch:=((fail_if_success (intro _));omega)) only[go_sem,simprocAttr,↓reduceIte,↓Nat.reduceEqDiff,xx,fd29,m29,c0,c17,hx.s,q0]
       . simp(disch:=((fail_if_success (intro _));omega)) only[go_sem,simprocAttr,↓reduceIte,↓Nat.reduceEqDiff,xx,fd29,m29,c0,c17,hx.s,q0]
     . rw[fnK_no hno]
       rw[call_go (fd:=fd29) rfl]
       rcases hg with hg|hg
       . simp(disch:=((fail_if_success (intro _));omega)) only[go_sem,simprocAttr,↓reduceIte,↓Nat.reduceEqDiff,xx,fd29,m29,c0,c17,hx.s,q0]
       . simp(disch:=((fail_if_success (intro _));omega)) only[go_sem,simprocAttr,↓reduceIte,↓Nat.reduceEqDiff,xx,fd29,m29,c0,c17,hx.s,q0]
 . rw[if_neg hsi]
   rw[Bool.not_eq_true]at hsi
   rw[hsi]at c0
   rw[call_go (fd:=fd29) rfl]
   simp(implicitDefEqProofs:=false) (disch:=((fail_if_success (intro _));omega)) only[go_sem,simprocAttr,↓reduceIte,↓Nat.reduceEqDiff,xx,fd29,m29,c0,hx.s,q0]
end
end Go.Proofs.S90
namespace Go.Ck
def hiN (a d n:Nat):Nat:=min (a+(n+1)*1000000/(1000000-d)) 1099511627776
def loN (a d n:Nat):Nat:=min (a+((n-1)*1000000+(1000000+d)-1)/(1000000+d)) 1099511627776
theorem hiN_mono (a d:Nat){n m:Nat}(h:n<=m):hiN a d n<=hiN a d m:=by
 have:(n+1)*1000000/(1000000-d)<=(m+1)*1000000/(1000000-d):=Nat.div_le_div_right (Nat.mul_le_mul_right _ (by omega))
 unfold hiN;omega
theorem lo_le_hi {a b d:Nat}(h:a<=b)(hd:d<=100000)(n:Nat):loN a d n<=hiN b d n:=by
 have h1:((n-1)*1000000+(1000000+d)-1)/(1000000+d)<=n:=by
  rw[Nat.div_le_iff_le_mul (by omega)]
  have:(n-1)*1000000<=n*(1000000+d):=Nat.mul_le_mul (by omega) (by omega)
  omega
 have h2:n+1<=(n+1)*1000000/(1000000-d):=by
  rw[Nat.le_div_iff_mul_le (by omega)]
  exact Nat.mul_le_mul_left _ (by omega)
 unfold hiN loN;omega
theorem ceil_eq (x f:Nat)(hf:0<f):(x+f-1)/f=if x/f*f<x then x/f+1 else x/f:=by
 have e:=Nat.div_add_mod x f
 have hm:=Nat.mod_lt x hf
 rw[Nat.mul_comm]at e
 by_cases h:x/f*f<x
 . rw[if_pos h]
   have:x+f-1=(x%f-1)+f*(x/f+1):=by rw[Nat.mul_add,Nat.mul_comm f];omega
   rw[this,Nat.add_mul_div_left _ _ hf,Nat.div_eq_of_lt (by omega)];omega
 . rw[if_neg h]
   have:x+f-1=(f-1)+f*(x/f):=by rw[Nat.mul_comm f];omega
   rw[this,Nat.add_mul_div_left _ _ hf,Nat.div_eq_of_lt (by omega)];omega
def ear (a d t n:Nat):Bool:=decide (hiN a d n<t)
theorem ear_anti {a d t n m:Nat}(h:n<=m)(he:ear a d t m=true):ear a d t n=true:=by
 have:=hiN_mono a d h
 simp only[ear,decide_eq_true_eq]at *;omega
def cnt (p:Nat->Bool):Nat->Nat
 | 0=>0
 | n+1=>if cnt p n=n/\p n=true then n+1 else cnt p n
theorem cnt_le (p:Nat->Bool):∀n,cnt p n<=n
 | 0=>Nat.le_refl _
 | n+1=>by have:=cnt_le p n;unfold cnt;split<;>omega
theorem cnt_lt {p:Nat->Bool}(ha:∀n m,n<=m->p m=true->p n=true):∀(N j:Nat),j<N->(p j=true↔j<cnt p N)
 | N+1,j,h=>by
   have hl:=cnt_le p N
   unfold cnt
   by_cases hc:cnt p N=N/\p N=true
   . rw[if_pos hc]
     exact⟨fun _=>h,fun _=>ha j N (by omega) hc.2⟩
   . rw[if_neg hc]
     by_cases hj:j<N
     . exact cnt_lt ha N j hj
     . have e:j=N:=by omega
       subst e
       refine⟨fun h1=> ?_,fun h1=>by omega⟩
       by_cases h2:cnt p j=j
       . exact absurd ⟨h2,h1⟩ hc
       . have h3:cnt p j<j:=by omega
         have:=(cnt_lt ha j (cnt p j) h3).1 (ha _ j (by omega) h1)
         omega
def lateN (a d t N:Nat):Nat:=cnt (ear a d t) N
theorem lateN_le (a d t N:Nat):lateN a d t N<=N:=cnt_le _ _
theorem lateN_iff {a d t N j:Nat}(h:j<N):ear a d t j=true↔j<lateN a d t N:=cnt_lt (fun _ _=>ear_anti) N j h
end Go.Ck
