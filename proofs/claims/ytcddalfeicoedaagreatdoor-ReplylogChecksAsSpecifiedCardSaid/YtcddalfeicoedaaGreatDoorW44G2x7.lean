/-
  Chapter 4: where a key is, or belongs. No condition.
-/
import Derived.Test.YtcddalfeicoedaaGreatDoorW44G1x7
import Derived.Test.YtcddalfeicoedaaGreatDoorW44
import Derived.Test.YtcddalfeicoedaaGreatDoorEvY
set_option linter.unusedVariables false
set_option linter.unusedSimpArgs false
set_option linter.unusedSectionVars false
namespace Go.Proofs.S44
open Go Go.Ev Go.Proofs
variable {gl :Gl} {n:Nat}
theorem mid_ok (i j:Nat)(h:i+j<2^62):((BitVec.ofInt 64 ((i:Int)+(j:Int)))>>>(1:Nat)).toInt=(((i+j)/2:Nat):Int):=by
 have e:BitVec.ofInt 64 ((i:Int)+(j:Int))=BitVec.ofNat 64 (i+j):=by
  rw[show((i:Int)+(j:Int))=((i+j:Nat):Int) by omega,BitVec.ofInt_natCast]
 rw[e,BitVec.toInt_eq_toNat_of_lt]
 . rw[BitVec.toNat_ushiftRight,BitVec.toNat_ofNat,Nat.mod_eq_of_lt (by omega),Nat.shiftRight_eq_div_pow]
 . rw[BitVec.toNat_ushiftRight,BitVec.toNat_ofNat,Nat.mod_eq_of_lt (by omega),Nat.shiftRight_eq_div_pow];omega
def L80 :MC:=match m175 with| .seq _ (.seq _ (.seq _ (.seq (.block _ (.loop _ b)) _)))=>b|_=>.skip
def S80 (f:Bool)(m:Sh)(l:List Ky)(p s:Int)(a:Nat×Nat):St :=
 ⟨[.set 10 (i64 a.2),.set 9 (i64 a.1),.set 8 (i64 l.length),.set 2 (.fn 176 [.ptr 100000 []]),.set 1 (i64 p),.set 0 (.lst f m (ks l))],[(100000,.fix .sc (i64 s))]⟩
def nxtK (l:List Ky)(p s:Int)(a:Nat×Nat):Nat×Nat:=if cv (yat l ((a.1+a.2)/2)) p s<0 then((a.1+a.2)/2+1,a.2)else(a.1,(a.1+a.2)/2)
def Inr (p s:Int):Prop:=(-4611686018427387904<=p/\p<=4611686018427387904)/\(-4611686018427387904<=s/\s<=4611686018427387904)
set_option maxHeartbeats 1000000 in
theorem search_at (h:2<=n){f:Bool}{m:Sh}{l:List Ky}(hm:Mk l m)(hv:VR l)(p s:Int) :
  ∃k:Nat,k<=l.length/\(Inr p s->Pl l p s k)/\call gl tab n 175 [.lst f m (ks l),i64 p,.fn 176 [.ptr 100000 []]] [(100000,.fix .sc (i64 s))]=some (.tup [i64 k,.bool (decide (k<l.length)&&(cv (yat l k) p s==0))],[(100000,.fix .sc (i64 s))],[]):=by
 obtain⟨d,rfl⟩:=Nat.exists_eq_add_of_le' h
 have hn:=hv.n
 have c81:=fun i=>@cmp_at gl (d+1) (by omega) (yat l i) p s
 obtain⟨⟨k,k'⟩,⟨i1,i2,i3⟩,hgo,hit⟩:=iter_meas (f:=evC gl (call gl tab (d+1)) L80) (ks:=[.slot 0,.slot 1,.slot 2,.slot 8,.slot 9,.slot 10]) (S80 f m l p s)
  (fun a=>a.1<=a.2/\a.2<=l.length/\(Inr p s->(∀t,t<a.1->lo (yat l t) p s)/\∀t,a.2<=t->t<l.length->¬lo (yat l t) p s)) (fun a=>a.2-a.1)
  (nxtK l p s) (fun a=>decide (a.1<a.2)) (a0:=(0,l.length)) (by unfold LF;simp;omega)
  ⟨Nat.zero_le _,Nat.le_refl _,fun _=>⟨fun t ht=>absurd ht (Nat.not_lt_zero _),fun t h1 h2=>absurd h2 (by simp at h1;omega)⟩⟩
  (fun a ⟨h1,h2,h3⟩ hg=>by
    obtain⟨i,j⟩:=a
    simp only[decide_eq_true_eq]at hg h1 h2 h3 ⊢
    have hmid:=mid_ok i j (by omega)
    have hml:(i+j)/2<l.length:=by omega
    have hx:=ks_at hml
    have hm2:=hm.eq hml
    have c:=c81 ((i+j)/2)
    have hvk:=(hv.ok _ hml).v
    by_cases hc:cv (yat l ((i+j)/2)) p s<0
    . have e:nxtK l p s (i,j)=((i+j)/2+1,j):=if_pos hc
      rw[e]
      refine⟨?_,⟨by simp only;omega,h2,fun hr=>⟨fun t ht'=> ?_,(h3 hr).2⟩⟩,by simp only;omega⟩
      . generalize (i+j)/2=m' at *
        simp(disch:=(fail_if_success intro _);omega) only[go_sem,simprocAttr,↓Nat.reduceEqDiff,xx,L80,m175,S80,hmid,hx,hm2,zas,c]
      . simp only at ht'
        have hl:=(cv_lt hvk hr.1 hr.2).1 hc
        by_cases h5:t=(i+j)/2
        . rw[h5];exact hl
        . have:=hv.lt (show t<(i+j)/2 by omega) hml
          unfold lo at *;omega
    . have e:nxtK l p s (i,j)=(i,(i+j)/2):=if_neg hc
      rw[e]
      refine⟨?_,⟨by simp only;omega,by simp only;omega,fun hr=>⟨(h3 hr).1,fun t ht' h6=> ?_⟩⟩,by simp only;omega⟩
      . generalize (i+j)/2=m' at *
        simp(disch:=(fail_if_success intro _);omega) only[go_sem,simprocAttr,↓Nat.reduceEqDiff,xx,L80,m175,S80,hmid,hx,hm2,zas,c]
      . simp only at ht'
        have hl:¬lo (yat l ((i+j)/2)) p s:=fun h=>hc ((cv_lt hvk hr.1 hr.2).2 h)
        by_cases h5:t=(i+j)/2
        . rw[h5];exact hl
        . have:=hv.lt (show(i+j)/2<t by omega) h6
          unfold lo at *;omega)
  (fun a ⟨h1,h2,h3⟩ hg=>by
    simp only[decide_eq_false_iff_not]at hg
    simp(disch:=(fail_if_success intro _);omega) only[go_sem,simprocAttr,↓Nat.reduceEqDiff,xx,L80,m175,S80,zas])
 simp only[decide_eq_false_iff_not]at hgo i1 i2 i3
 obtain rfl:k=k':=by omega
 simp only[L80,m175]at hit
 refine⟨k,i2,fun hr=>⟨i2,(i3 hr).1,(i3 hr).2⟩,?_⟩
 by_cases hkl:k<l.length
 . have hx:=ks_at hkl
   have hm2:=hm.eq hkl
   have c:=c81 k
   rw[decide_eq_true hkl,Bool.true_and]
   rw[zax (fd:=fd175) rfl]
   simp(disch:=(fail_if_success intro _);omega) only[go_sem,simprocAttr,↓Nat.reduceEqDiff,xx,fd175,m175,zas]
   rw[hit _ (by simp(disch:=(fail_if_success intro _);omega) only[go_sem,simprocAttr,↓Nat.reduceEqDiff,xx,S80])]
   simp(disch:=(fail_if_success intro _);omega) only[go_sem,simprocAttr,↓Nat.reduceEqDiff,xx,S80,zas,hx,hm2,c]
 . rw[decide_eq_false hkl,Bool.false_and]
   rw[zax (fd:=fd175) rfl]
   simp(disch:=(fail_if_success intro _);omega) only[go_sem,simprocAttr,↓Nat.reduceEqDiff,xx,fd175,m175,zas]
   rw[hit _ (by simp(disch:=(fail_if_success intro _);omega) only[go_sem,simprocAttr,↓Nat.reduceEqDiff,xx,S80])]
   simp(disch:=(fail_if_success intro _);omega) only[go_sem,simprocAttr,↓Nat.reduceEqDiff,xx,S80,zas]
def Is (l:List Ky)(p s:Int)(k:Nat):Prop:=k<l.length/\(yat l k).p=p/\(yat l k).s=s
theorem is_one {l:List Ky}(hv:VR l){p s:Int}{i j:Nat}(h1:Is l p s i)(h2:Is l p s j):i=j:=by
 obtain⟨a1,a2,a3⟩:=h1
 obtain⟨b1,b2,b3⟩:=h2
 rcases Nat.lt_trichotomy i j with h|h|h
 . have:=hv.lt h b1;unfold lo at this;omega
 . exact h
 . have:=hv.lt h a1;unfold lo at this;omega
theorem place_at (h:3<=n){f:Bool}{m:Sh}{l:List Ky}(hm:Mk l m)(hv:VR l){p s:Int}(hp:R64 p)(hs:R64 s) :
  ∃(k:Nat) (b:Bool),k<=l.length/\(Inr p s->Pl l p s k)/\(b=true↔Is l p s k)/\(b=false->∀i,¬Is l p s i)/\call gl tab n 168 [.lst f m (ks l),i64 p,i64 s] []=some (.tup [i64 k,.bool b],[],[]):=by
 obtain⟨d,rfl⟩:=Nat.exists_eq_add_of_le' h
 obtain⟨k,hk,hpl,c80⟩:=@search_at gl (d+2) (by omega) f m l hm hv p s
 have hb:(decide (k<l.length)&&(cv (yat l k) p s==0))=true↔Is l p s k:=by
  rw[Bool.and_eq_true,decide_eq_true_eq,beq_iff_eq]
  exact⟨fun⟨h1,h2⟩=>⟨h1,(cv_0 (hv.ok k h1).v hp hs).1 h2⟩,fun⟨h1,h2⟩=>⟨h1,(cv_0 (hv.ok k h1).v hp hs).2 h2⟩⟩
 refine⟨k,_,hk,hpl,hb,fun e i hi=> ?_,?_⟩
 . obtain⟨h1,h2,h3⟩:=hi
   have v:=(hv.ok i h1).v
   have v1:=v.p;have v2:=v.s
   have hP:=hpl ⟨by omega,by omega⟩
   have hik:k=i:=by
    rcases Nat.lt_trichotomy i k with h|h|h
    . have:=hP.lo i h;unfold lo at this;omega
    . exact h.symm
    . exfalso
      have a1:=hv.lt h h1
      have a2:=hP.hi k (Nat.le_refl _) (by omega)
      rw[h2,h3]at a1;exact a2 a1
   subst hik
   rw[hb.2 ⟨h1,h2,h3⟩]at e;cases e
 . generalize (decide (k<l.length)&&(cv (yat l k) p s==0))=b at *
   rw[zad (fd:=fd168) rfl]
   simp(disch:=(fail_if_success intro _);omega) only[go_sem,simprocAttr,↓Nat.reduceEqDiff,xx,fd168,m168,c80]
theorem find_is (h:4<=n){f:Bool}{m:Sh}{l:List Ky}(hm:Mk l m)(hv:VR l){p s:Int}(hp:R64 p)(hs:R64 s){k:Nat}(hk:Is l p s k) :
  call gl tab n 151 [.lst f m (ks l),i64 p,i64 s] []=some (.tup [ky (yat l k),i64 0],[],[]):=by
 obtain⟨d,rfl⟩:=Nat.exists_eq_add_of_le' h
 obtain⟨j,b,hj,hpl,hb,hn,c57⟩:=@place_at gl (d+3) (by omega) f m l hm hv p s hp hs
 cases b with
 | false=>exact absurd hk (hn rfl k)
 | true =>
   obtain rfl:=is_one hv (hb.1 rfl) hk
   have hx:=ks_at hk.1
   obtain rfl:=hm.eq hk.1
   have hk1:=hk.1
   have hn:=hv.n
   rw[zad (fd:=fd151) rfl]
   simp(disch:=(fail_if_success intro _);omega) only[go_sem,simprocAttr,↓Nat.reduceEqDiff,xx,fd151,m151,c57,hx,zas]
abbrev ky0 :AV:=.agg [i64 0,i64 0,.str [],i64 0,i64 0]
theorem find_no (h:4<=n){f:Bool}{m:Sh}{l:List Ky}(hm:Mk l m)(hv:VR l){p s:Int}(hp:R64 p)(hs:R64 s)(hk:∀k,¬Is l p s k) :
  call gl tab n 151 [.lst f m (ks l),i64 p,i64 s] []=some (.tup [ky0,i64 5],[],[]):=by
 obtain⟨d,rfl⟩:=Nat.exists_eq_add_of_le' h
 obtain⟨j,b,hj,hpl,hb,hn,c57⟩:=@place_at gl (d+3) (by omega) f m l hm hv p s hp hs
 cases b with
 | true=>exact absurd (hb.1 rfl) (hk j)
 | false =>
   rw[zad (fd:=fd151) rfl]
   simp(disch:=(fail_if_success intro _);omega) only[go_sem,simprocAttr,↓Nat.reduceEqDiff,xx,fd151,m151,c57]
def L17 :MC:=match m161 with| .seq _ (.seq (.seq _ (.block _ (.loop _ b))) _)=>b|_=>.skip
def S17 (f:Bool)(m:Sh)(l:List Ky)(p s:Int)(i:Nat):St :=
 ⟨[.set 7 (i64 i),.set 6 (.ptr 6 []),.set 2 (i64 s),.set 1 (i64 p),.set 0 (.lst f m (ks l))],[(6,.fix (.st [sY,.sc]) (.agg [ky0,i64 0]))]⟩
theorem st17 {d:Nat}{f:Bool}{m:Sh}{l:List Ky}(hm:Mk l m)(hl:l.length<2^60){p s:Int}{i:Nat}(hi:i<l.length)(hn:¬Is l p s i) :
  zbm [.slot 0,.slot 1,.slot 2,.slot 6,.slot 7,.key 6] (evC gl (call gl tab d) L17 (S17 f m l p s i))=some (S17 f m l p s (i+1)):=by
 have hx:=ks_at hi
 have hm2:=hm.eq hi
 by_cases h1:(yat l i).p=p
 . have h2:((yat l i).s==s)=false:=by rw[beq_eq_false_iff_ne];exact fun h=>hn ⟨hi,h1,h⟩
   have h3:((yat l i).p==p)=true:=by rw[beq_iff_eq];exact h1
   simp(disch:=(fail_if_success intro _);omega) only[go_sem,simprocAttr,↓Nat.reduceEqDiff,xx,L17,m161,S17,hx,hm2,zas,h2,h3]
 . have h3:((yat l i).p==p)=false:=by rw[beq_eq_false_iff_ne];exact h1
   simp(disch:=(fail_if_success intro _);omega) only[go_sem,simprocAttr,↓Nat.reduceEqDiff,xx,L17,m161,S17,hx,hm2,zas,h3]
theorem rfind_is (h:1<=n){f:Bool}{m:Sh}{l:List Ky}(hm:Mk l m)(hl:l.length<2^60){p s:Int}{k:Nat}(hk:Is l p s k)(h1:∀i,i<k->¬Is l p s i) :
  call gl tab n 161 [.lst f m (ks l),i64 p,i64 s] []=some (.agg [ky (yat l k),i64 0],[],[]):=by
 obtain⟨d,rfl⟩:=Nat.exists_eq_add_of_le' h
 have hs:=fun i (hi:i<k)=>@st17 gl d f m l hm hl p s i (by have:=hk.1;omega) (h1 i hi)
 have hk1:=hk.1
 have hx:=ks_at hk.1
 have hm2:=hm.eq hk.1
 have h3:((yat l k).p==p)=true:=by rw[beq_iff_eq];exact hk.2.1
 have h4:((yat l k).s==s)=true:=by rw[beq_iff_eq];exact hk.2.2
 simp only[L17,m161]at hs
 rw[zad (fd:=fd161) rfl]
 simp(disch:=(fail_if_success intro _);omega) only[go_sem,simprocAttr,↓Nat.reduceEqDiff,xx,fd161,m161,zas]
 rw[zal (S17 f m l p s) k (by unfold LF;omega)]
 . simp(disch:=(fail_if_success intro _);omega) only[go_sem,simprocAttr,↓Nat.reduceEqDiff,xx,S17,zas,hx,hm2,h3,h4]
 . simp(disch:=(fail_if_success intro _);omega) only[go_sem,simprocAttr,↓Nat.reduceEqDiff,xx,S17,zas]
 . exact hs
 . simp(disch:=(fail_if_success intro _);omega) only[go_sem,simprocAttr,↓Nat.reduceEqDiff,xx,S17,zas,hx,hm2,h3,h4]
theorem rfind_no (h:1<=n){f:Bool}{m:Sh}{l:List Ky}(hm:Mk l m)(hl:l.length<2^60){p s:Int}(hk:∀i,¬Is l p s i) :
  call gl tab n 161 [.lst f m (ks l),i64 p,i64 s] []=some (.agg [ky0,i64 5],[],[]):=by
 obtain⟨d,rfl⟩:=Nat.exists_eq_add_of_le' h
 have hs:=fun i (hi:i<l.length)=>@st17 gl d f m l hm hl p s i hi (hk i)
 simp only[L17,m161]at hs
 rw[zad (fd:=fd161) rfl]
 simp(disch:=(fail_if_success intro _);omega) only[go_sem,simprocAttr,↓Nat.reduceEqDiff,xx,fd161,m161,zas]
 rw[zal (S17 f m l p s) l.length (by unfold LF;omega)]
 . simp(disch:=(fail_if_success intro _);omega) only[go_sem,simprocAttr,↓Nat.reduceEqDiff,xx,S17,zas]
 . simp(disch:=(fail_if_success intro _);omega) only[go_sem,simprocAttr,↓Nat.reduceEqDiff,xx,S17,zas]
 . exact hs
 . simp(disch:=(fail_if_success intro _);omega) only[go_sem,simprocAttr,↓Nat.reduceEqDiff,xx,S17,zas]
theorem yat_eq {l:List Ky}{i:Nat}(h:i<l.length):yat l i=l[i]:=by simp[yat,h]
theorem R64.of {a:Int}(h:1<=a/\a<=1073741824):R64 a:=by unfold R64;omega
theorem pfinds (h:4<=n){f:Bool}{m:Sh}{l:List Ky}(hm:Mk l m)(hv:VR l){p s:Int}(hp:R64 p)(hs:R64 s) :
  (∃k,Is l p s k/\call gl tab n 151 [.lst f m (ks l),i64 p,i64 s] []=some (.tup [ky (yat l k),i64 0],[],[])) \/
  (∀k,¬Is l p s k)/\call gl tab n 151 [.lst f m (ks l),i64 p,i64 s] []=some (.tup [ky0,i64 5],[],[]):=by
 by_cases hk:∃k,Is l p s k
 . obtain⟨k,hk⟩:=hk
   exact .inl ⟨k,hk,find_is h hm hv hp hs hk⟩
 . have hk:∀k,¬Is l p s k:=fun k h=>hk ⟨k,h⟩
   exact .inr ⟨hk,find_no h hm hv hp hs hk⟩
theorem rfinds (h:4<=n){f:Bool}{m:Sh}{l:List Ky}(hm:Mk l m)(hv:VR l){p s:Int}(hp:R64 p)(hs:R64 s) :
  (∃k,Is l p s k/\call gl tab n 161 [.lst f m (ks l),i64 p,i64 s] []=some (.agg [ky (yat l k),i64 0],[],[])) \/
  (∀k,¬Is l p s k)/\call gl tab n 161 [.lst f m (ks l),i64 p,i64 s] []=some (.agg [ky0,i64 5],[],[]):=by
 have hl:=hv.n
 by_cases hk:∃k,Is l p s k
 . obtain⟨k,hk⟩:=hk
   refine .inl ⟨k,hk,rfind_is (by omega) hm (by omega) hk fun i hi hi2=> ?_⟩
   have:=is_one hv hi2 hk;omega
 . have hk:∀k,¬Is l p s k:=fun k h=>hk ⟨k,h⟩
   exact .inr ⟨hk,rfind_no (by omega) hm (by omega) hk⟩
end Go.Proofs.S44
namespace Go.Proofs.S44.H
open Go Go.Ev Go.Proofs Go.Proofs.S44
abbrev i64 (n:Int):AV:=.int .i64 n
abbrev u64 (x:BitVec 64):AV:=.int .u64 (x.toNat:Int)
abbrev u32 (x:BitVec 32):AV:=.int .u32 (x.toNat:Int)
abbrev u8 (x:BitVec 8):AV:=.int .u8 (x.toNat:Int)
def ub (b:BitVec 8):UInt8:=⟨b⟩
structure GlK (gl:Gl):Prop where
 k:gl.tbl 2=some (.ar 64 .sc,.agg kA)
structure GlR (gl:Gl):Prop where
 r:gl.tbl 3=some (.ar 64 .sc,.agg kA)
def strsAV (l:List (List UInt8)):List AV:=l.map fun x=>.str x
theorem zab (l:List (List UInt8)):(strsAV l).length=l.length:=by simp[strsAV]
theorem zan {l:List (List UInt8)}{i:Nat}(h:i<l.length):(strsAV l)[i]? =some (.str l[i]):=by
 rw[strsAV,List.getElem?_map,List.getElem?_eq_getElem h];rfl
theorem zdv {i:Nat}(h:i<2^62):IntKind.wrap .i64 ((i:Int)+1)=((i+1:Nat):Int):=by
 rw[zaz (by omega) (by omega)];rfl
theorem glK {gl:Gl}[h:Nonempty (GlK gl)]:gl.tbl 2=some (.ar 64 .sc,.agg kA):=h.elim fun h=>h.k
theorem glR {gl:Gl}[h:Nonempty (GlR gl)]:gl.tbl 3=some (.ar 64 .sc,.agg kA):=h.elim fun h=>h.r
theorem bytesAV_take' {l:List UInt8}{n:Nat}(h:l.length=n):(zac l).take n=zac l:=by rw[<-h,zkg]
theorem zhy {n:Nat}(h:n<2^36):n+1<=LIM:=by unfold LIM;omega
theorem zaf (a b:List UInt8):zac (a++b)=zac a++zac b:=by simp[zac]
theorem zjd (a b:Nat)(h:0<b):zar .rem .i64 (a:Int) (b:Int)=some (.int .i64 ((a%b:Nat):Int)):=by
 have hb:¬((b:Int)=0):=by omega
 simp only[zar,hb,if_false];rfl
theorem noImms_bytesAV :∀l:List UInt8,zdy (zac l)=true
 | []=>rfl
 | b::l=>by
   show(zc5 (.int .u8 (b.toNat:Int))&&zdy (zac l))=true
   rw[noImms_bytesAV l];rfl
end Go.Proofs.S44.H
namespace Go.Proofs.S44.H
open Go Go.Ev Go.Proofs Go.Proofs.S44
variable {gl :Gl}
def rr (x:BitVec 32)(i:Nat):BitVec 32:=x<<<(32-i)|||x>>>i
theorem rot_amount :∀i:Fin 32,BitVec.ofInt 64 (-(i.val:Int))&&&31#64=BitVec.ofNat 64 ((32-i.val)%32):=by decide +kernel
theorem rot_sub :∀i:Fin 32,(0<i.val->(32#64-BitVec.ofNat 64 ((32-i.val)%32)).toNat=i.val/\(BitVec.ofNat 64 ((32-i.val)%32)).toNat=32-i.val):=by decide +kernel
theorem rot_ok (d:Nat)(x:BitVec 32)(i:Nat)(h0:0<i)(h:i<32):call gl tab (d+1) 177 [u32 x,.int .i64 (-(i:Int))] []=some (u32 (rr x i),[],[]):=by
 have h1:=rot_amount ⟨i,h⟩
 have ⟨h2,h3⟩:=rot_sub ⟨i,h⟩ h0
 have h4:(32-i)%32=32-i:=Nat.mod_eq_of_lt (by omega)
 simp only[h4]at h1 h2 h3
 rw[zad (fd:=fd177) rfl]
 simp only[fd177,m177,go_sem,simprocAttr,↓Nat.reduceEqDiff,h1,h2,h3,rr]
theorem neg_i (i:Nat)(h:i<64):IntKind.wrap .i64 (0-(i:Int))=-(i:Int):=by rw[zaz (by omega) (by omega)];omega
theorem mix_ok (d:Nat)(x:BitVec 32)(i j k:Nat)(hi:0<i)(hi':i<32)(hj:0<j)(hj':j<32)(hk:0<k)(hk':k<32) :
  call gl tab (d+2) 170 [u32 x,.int .i64 (i:Int),.int .i64 (j:Int),.int .i64 (k:Int)] []=some (u32 (rr x i^^^rr x j^^^rr x k),[],[]):=by
 rw[zad (fd:=fd170) rfl]
 simp only[fd170,m170,go_sem,simprocAttr,↓Nat.reduceEqDiff,neg_i i (by omega),neg_i j (by omega),neg_i k (by omega),rot_ok d x i hi hi',rot_ok d x j hj hj',rot_ok d x k hk hk']
abbrev Ws :=List (BitVec 32)
def wsAV (l:Ws):List AV:=l.map fun x=>u32 x
theorem zb5 (l:Ws):(wsAV l).length=l.length:=by simp[wsAV]
theorem zci {l:Ws}{i:Nat}(h:i<l.length):(wsAV l)[i]? =some (u32 (l.getD i 0)):=by
 rw[wsAV,List.getElem?_map,List.getElem?_eq_getElem h,List.getD_eq_getElem?_getD,List.getElem?_eq_getElem h];rfl
theorem zif (l:Ws)(i:Nat)(x:BitVec 32):wsAV (l.set i x)=(wsAV l).set i (u32 x):=by simp[wsAV,List.map_set]
def bt (b:List UInt8)(i:Nat):BitVec 32:=((b.getD i 0).toBitVec).setWidth 32
def word (b:List UInt8)(t:Nat):BitVec 32:=bt b (4*t)<<<(24:Nat)|||bt b (4*t+1)<<<(16:Nat)|||bt b (4*t+2)<<<(8:Nat)|||bt b (4*t+3)
def nextW (l:Ws)(t:Nat):BitVec 32 :=
 l.getD (t-16) 0+(rr (l.getD (t-15) 0) 7^^^rr (l.getD (t-15) 0) 18^^^l.getD (t-15) 0>>>(3:Nat))+l.getD (t-7) 0+(rr (l.getD (t-2) 0) 17^^^rr (l.getD (t-2) 0) 19^^^l.getD (t-2) 0>>>(10:Nat))
def zbs (b:List UInt8):Nat->Ws
 | 0=>List.replicate 64 0
 | t+1=>(zbs b t).set t (if t<16 then word b t else nextW (zbs b t) t)
theorem za6 (b:List UInt8)(t:Nat):(zbs b t).length=64:=by
 induction t with
 | zero=>simp[zbs]
 | succ t ih=>rw[zbs,List.length_set,ih]
theorem rot7 (d:Nat)(x:BitVec 32):call gl tab (d+1) 177 [u32 x,.int .i64 (-7)] []=some (u32 (rr x 7),[],[]):=rot_ok d x 7 (by omega) (by omega)
theorem rot18 (d:Nat)(x:BitVec 32):call gl tab (d+1) 177 [u32 x,.int .i64 (-18)] []=some (u32 (rr x 18),[],[]):=rot_ok d x 18 (by omega) (by omega)
theorem rot17 (d:Nat)(x:BitVec 32):call gl tab (d+1) 177 [u32 x,.int .i64 (-17)] []=some (u32 (rr x 17),[],[]):=rot_ok d x 17 (by omega) (by omega)
theorem rot19 (d:Nat)(x:BitVec 32):call gl tab (d+1) 177 [u32 x,.int .i64 (-19)] []=some (u32 (rr x 19),[],[]):=rot_ok d x 19 (by omega) (by omega)
theorem ws_all (l:Ws):(wsAV l).all AV.scalar=true:=by
 rw[List.all_eq_true];intro x hx
 obtain⟨y,_,rfl⟩:=List.mem_map.1 hx;rfl
theorem sched0 (b:List UInt8):AV.agg (wsAV (zbs b 0))= .agg (List.replicate 64 (.int .u32 0)):=rfl
def zer64 :AV:=.agg (List.replicate 64 (.int .u32 0))
theorem zee :zer64.refs=[]:=by kernel_rfl
theorem sched_zero (b:List UInt8)(t:Nat):∀i,t<=i->(zbs b t).getD i 0=0:=by
 induction t with
 | zero=>intro i _;rw[zbs,List.getD_eq_getElem?_getD,List.getElem?_replicate];split<;>rfl
 | succ t ih =>
   intro i hi
   rw[zbs,List.getD_eq_getElem?_getD,List.getElem?_set_ne (by omega),<-List.getD_eq_getElem?_getD]
   exact ih i (by omega)
def accW (b:List UInt8)(t:Nat):Nat->BitVec 32
 | 0=>0#32
 | j+1=>accW b t j<<<(8:Nat)|||bt b (4*t+j)
theorem shl_or (a b:BitVec 32)(n:Nat):(a|||b)<<<n=a<<<n|||b<<<n:=by
 apply BitVec.eq_of_getLsbD_eq;intro i hi
 simp only[BitVec.getLsbD_shiftLeft,BitVec.getLsbD_or]
 cases decide (i<n)<;>simp[hi]
theorem accW_4 (b:List UInt8)(t:Nat):accW b t 4=word b t:=by
 simp only[accW,word,Nat.add_zero]
 rw[shl_or,shl_or,shl_or,shl_or,shl_or,shl_or,<-BitVec.shiftLeft_add,<-BitVec.shiftLeft_add,<-BitVec.shiftLeft_add]
 simp
theorem zd3 {l:List UInt8}{i:Nat}(h:i<l.length):(zac l)[i]? =some (.int .u8 ((l.getD i 0).toBitVec.toNat:Int)):=by
 rw[zib h,List.getD_eq_getElem?_getD,List.getElem?_eq_getElem h];rfl
def S51 (nb:Bool)(b:List UInt8)(t:Nat):St :=
 ⟨[.set 11 (.int .i64 t),.set 3 (.ptr 3 []),.set 2 (.ptr 2 []),.set 0 (.lst nb .sc (zac b))],[(3,.fix (.ar 64 .sc) (.agg (wsAV (zbs b t)))),(2,.fix (.ar 64 .sc) zer64)]⟩
def blkW (b:List UInt8)(t:Nat):List AV:=List.drop (4*t) (List.take (4*t+4) (zac b))
theorem blkW_len {b:List UInt8}(hb:b.length=64){t:Nat}(ht:t<16):(blkW b t).length=4:=by
 rw[blkW,List.length_drop,List.length_take,zaa,hb];omega
theorem blkW_get {b:List UInt8}(hb:b.length=64){t j:Nat}(ht:t<16)(hj:j<4):(blkW b t)[j]? =some (.int .u8 ((b.getD (4*t+j) 0).toBitVec.toNat:Int)):=by
 rw[blkW,List.getElem?_drop,List.getElem?_take_of_lt (by omega),zd3 (by omega)]
def S51b (nb:Bool)(b:List UInt8)(t j:Nat):St :=
 ⟨[.set 24 (.int .i64 j),.set 23 (.int .i64 4),.set 22 (.lst (nb&&4*t==60) .sc (blkW b t)),.set 11 (.int .i64 t),.set 4 (.int .i64 t),.set 3 (.ptr 3 []),.set 2 (.ptr 2 []),.set 0 (.lst nb .sc (zac b))],
  [(3,.fix (.ar 64 .sc) (.agg (wsAV ((zbs b t).set t (accW b t j))))),(2,.fix (.ar 64 .sc) zer64)]⟩
theorem set_self (l:Ws)(i:Nat)(h:l.getD i 0=0):l.set i 0#32=l:=by
 apply List.ext_getElem?
 intro j
 rw[List.getElem?_set]
 split
 . rename_i e;subst e
   split
   . rename_i hl
     rw[List.getD_eq_getElem?_getD,List.getElem?_eq_getElem hl]at h
     rw[List.getElem?_eq_getElem hl];congr 1;exact h.symm
   . rename_i hl;rw[List.getElem?_eq_none (by omega)]
 . rfl
theorem set_get (l:Ws)(t:Nat)(x:BitVec 32)(h:t<l.length):(l.set t x).getD t 0=x:=by
 rw[List.getD_eq_getElem?_getD,List.getElem?_set_self h];rfl
theorem sched_ok (d:Nat)(nb:Bool)(b:List UInt8)(hb:b.length=64):call gl tab (d+2) 169 [.lst nb .sc (zac b)] []=some (.agg (wsAV (zbs b 64)),[],[]):=by
 have hz:AV.agg (List.replicate 64 (.int .u32 0))=zer64:=rfl
 rw[zad (fd:=fd169) rfl]
 simp only[fd169,m169,hz,go_sem,simprocAttr,↓Nat.reduceEqDiff]
 rw[zal (S51 nb b) 64 (by unfold LF;omega)]
 . simp only[S51,go_sem,simprocAttr,↓Nat.reduceEqDiff,zb5,za6,ws_all]
 . simp only[S51,sched0,zer64,go_sem,simprocAttr,↓Nat.reduceEqDiff]
 . intro t ht
   by_cases h16:t<16
   . have hw1:IntKind.wrap .i64 (4*(t:Int))=((4*t:Nat):Int):=by rw[zaz (by omega) (by omega)];omega
     have hw2:IntKind.wrap .i64 (((4*t:Nat):Int)+4)=((4*t+4:Nat):Int):=by rw[zaz (by omega) (by omega)];omega
     have hle:4*t+4<=64:=by omega
     have hsub:4*t+4-4*t=4:=by omega
     have hbl:List.drop (4*t) (List.take (4*t+4) (zac b))=blkW b t:=rfl
     simp only[S51,go_sem,simprocAttr,↓Nat.reduceEqDiff,ht,h16,hw1,hw2,zaa,hb,hle,Nat.le_add_right,hsub,hbl,blkW_len hb h16]
     rw[zal (S51b nb b t) 4 (by unfold LF;omega)]
     . simp only[S51b,go_sem,simprocAttr,↓Nat.reduceEqDiff,zee,accW_4,zdv (show t<2^62 by omega),zbs,h16]
     . have h0:(zbs b t).set t (accW b t 0)=zbs b t:=set_self _ _ (sched_zero b t t (by omega))
       simp only[S51b,go_sem,simprocAttr,↓Nat.reduceEqDiff,zee,h0,Bool.and_false]
     . intro j hj
       have gt:=zci (l:=(zbs b t).set t (accW b t j)) (i:=t) (by rw[List.length_set,za6];omega)
       rw[set_get _ _ _ (by rw[za6];omega),zif]at gt
       have hss:(zbs b t).set t (accW b t (j+1))=((zbs b t).set t (accW b t j)).set t (accW b t (j+1)):=by rw[List.set_set]
       rw[show S51b nb b t (j+1)=⟨(S51b nb b t (j+1)).fr,[(3,.fix (.ar 64 .sc) (.agg (wsAV (((zbs b t).set t (accW b t j)).set t (accW b t (j+1)))))),(2,.fix (.ar 64 .sc) zer64)]⟩ by rw[<-hss];rfl]
       simp only[S51b,go_sem,simprocAttr,↓Nat.reduceEqDiff,zee,hj,ht,blkW_len hb h16,blkW_get hb h16 hj,gt,zif,List.length_set,zb5,za6,accW,bt,zdv (show j<2^62 by omega)]
     . simp only[S51b,go_sem,simprocAttr,↓Nat.reduceEqDiff]
   . have h15:IntKind.wrap .i64 ((t:Int)-15)=((t-15:Nat):Int):=by rw[zaz (by omega) (by omega)];omega
     have h2:IntKind.wrap .i64 ((t:Int)-2)=((t-2:Nat):Int):=by rw[zaz (by omega) (by omega)];omega
     have h7:IntKind.wrap .i64 ((t:Int)-7)=((t-7:Nat):Int):=by rw[zaz (by omega) (by omega)];omega
     have h6:IntKind.wrap .i64 ((t:Int)-16)=((t-16:Nat):Int):=by rw[zaz (by omega) (by omega)];omega
     have g15:=zci (l:=zbs b t) (i:=t-15) (by rw[za6];omega)
     have g2:=zci (l:=zbs b t) (i:=t-2) (by rw[za6];omega)
     have g7:=zci (l:=zbs b t) (i:=t-7) (by rw[za6];omega)
     have g6:=zci (l:=zbs b t) (i:=t-16) (by rw[za6];omega)
     have gt:=zci (l:=zbs b t) (i:=t) (by rw[za6];omega)
     simp only[S51,go_sem,simprocAttr,↓Nat.reduceEqDiff,zee,gt,ht,h16,h15,h2,h7,h6,g15,g2,g7,g6,zb5,za6,show t-15<64 by omega,show t-2<64 by omega,show t-7<64 by omega,show t-16<64 by omega,rot7,rot18,rot17,rot19,zdv (show t<2^62 by omega),zbs,zif,nextW]
 . simp only[S51,go_sem,simprocAttr,↓Nat.reduceEqDiff]
end Go.Proofs.S44.H
