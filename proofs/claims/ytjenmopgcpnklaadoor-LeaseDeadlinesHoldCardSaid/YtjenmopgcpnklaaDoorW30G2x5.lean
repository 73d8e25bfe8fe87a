/-
  Chapter 4: where a key is, or belongs. No condition.
-/
import Derived.Test.YtjenmopgcpnklaaDoorW30G1x5
import Derived.Test.YtjenmopgcpnklaaDoorW30
import Derived.Test.YtjenmopgcpnklaaDoorEvY
set_option linter.unusedVariables false
set_option linter.unusedSimpArgs false
set_option linter.unusedSectionVars false
namespace Go.Proofs.S30
open Go Go.Ev Go.Proofs
variable {gl :Gl} {n:Nat}
theorem mid_ok (i j:Nat)(h:i+j<2^62):((BitVec.ofInt 64 ((i:Int)+(j:Int)))>>>(1:Nat)).toInt=(((i+j)/2:Nat):Int):=by
 have e:BitVec.ofInt 64 ((i:Int)+(j:Int))=BitVec.ofNat 64 (i+j):=by
  rw[show((i:Int)+(j:Int))=((i+j:Nat):Int) by omega,BitVec.ofInt_natCast]
 rw[e,BitVec.toInt_eq_toNat_of_lt]
 . rw[BitVec.toNat_ushiftRight,BitVec.toNat_ofNat,Nat.mod_eq_of_lt (by omega),Nat.shiftRight_eq_div_pow]
 . rw[BitVec.toNat_ushiftRight,BitVec.toNat_ofNat,Nat.mod_eq_of_lt (by omega),Nat.shiftRight_eq_div_pow];omega
def L80 :MC:=match m97 with| .seq _ (.seq _ (.seq _ (.seq (.block _ (.loop _ b)) _)))=>b|_=>.skip
def S80 (f:Bool)(m:Sh)(l:List Ky)(p s:Int)(a:Nat×Nat):St :=
 ⟨[.set 10 (i64 a.2),.set 9 (i64 a.1),.set 8 (i64 l.length),.set 2 (.fn 98 [.ptr 100000 []]),.set 1 (i64 p),.set 0 (.lst f m (ks l))],[(100000,.fix .sc (i64 s))]⟩
def nxtK (l:List Ky)(p s:Int)(a:Nat×Nat):Nat×Nat:=if cv (yat l ((a.1+a.2)/2)) p s<0 then((a.1+a.2)/2+1,a.2)else(a.1,(a.1+a.2)/2)
def Inr (p s:Int):Prop:=(-4611686018427387904<=p/\p<=4611686018427387904)/\(-4611686018427387904<=s/\s<=4611686018427387904)
set_option maxHeartbeats 1000000 in
theorem search_at (h:2<=n){f:Bool}{m:Sh}{l:List Ky}(hm:Mk l m)(hv:VR l)(p s:Int) :
  ∃k:Nat,k<=l.length/\(Inr p s->Pl l p s k)/\call gl tab n 97 [.lst f m (ks l),i64 p,.fn 98 [.ptr 100000 []]] [(100000,.fix .sc (i64 s))]=some (.tup [i64 k,.bool (decide (k<l.length)&&(cv (yat l k) p s==0))],[(100000,.fix .sc (i64 s))],[]):=by
 obtain⟨d,rfl⟩:=Nat.exists_eq_add_of_le' h
 have hn:=hv.n
 have c81:=fun i=>@cmp_at gl (d+1) (by omega) (yat l i) p s
 obtain⟨⟨k,k'⟩,⟨i1,i2,i3⟩,hgo,hit⟩:=iter_meas (f:=evC gl (call gl tab (d+1)) L80) (ks:=[.slot 0,.slot 1,.slot 2,.slot 8,.slot 9,.slot 10]) (S80 f m l p s)
  (fun a=>a.1<=a.2/\a.2<=l.length/\(Inr p s->(∀t,t<a.1->lo (yat l t) p s)/\∀t,a.2<=t->t<l.length->¬lo (yat l t) p s)) (fun a=>a.2-a.1)
  (nxtK l p s) (fun a=>decide (a.1<a.2)) (a0:=(0,l.length)) (by unfold LF;simp;omega)
  ⟨Nat.zero_le _,Nat.le_refl _,fun _=>⟨fun t ht=>absurd ht (Nat.not_lt_zero _),fun t h1 h2=>absurd h2 (by simp at h1;omega)⟩⟩
  (fun a ⟨h1,h2,h3⟩ hg=>by
    obtain⟨i,j⟩:=a
    simp only[decide_eq_true_eq]at hg h1 h2 h3 ⊢
    have hmid:=mid_ok i j (by omega)
    have hml:(i+j)/2<l.length:=by omega
    have hx:=ks_at hml
    have hm2:=hm.eq hml
    have c:=c81 ((i+j)/2)
    have hvk:=(hv.ok _ hml).v
    by_cases hc:cv (yat l ((i+j)/2)) p s<0
    . have e:nxtK l p s (i,j)=((i+j)/2+1,j):=if_pos hc
      rw[e]
      refine⟨?_,⟨by simp only;omega,h2,fun hr=>⟨fun t ht'=> ?_,(h3 hr).2⟩⟩,by simp only;omega⟩
      . generalize (i+j)/2=m' at *
        simp(disch:=((fail_if_success (intro _));omega)) only[go_sem,simprocAttr,↓reduceIte,↓Nat.reduceEqDiff,xx,L80,m97,S80,hmid,hx,hm2,ks_length,c]
      . simp only at ht'
        have hl:=(cv_lt hvk hr.1 hr.2).1 hc
        by_cases h5:t=(i+j)/2
        . rw[h5];exact hl
        . have:=hv.lt (show t<(i+j)/2 by omega) hml
          unfold lo at *;omega
    . have e:nxtK l p s (i,j)=(i,(i+j)/2):=if_neg hc
      rw[e]
      refine⟨?_,⟨by simp only;omega,by simp only;omega,fun hr=>⟨(h3 hr).1,fun t ht' h6=> ?_⟩⟩,by simp only;omega⟩
      . generalize (i+j)/2=m' at *
        simp(disch:=((fail_if_success (intro _));omega)) only[go_sem,simprocAttr,↓reduceIte,↓Nat.reduceEqDiff,xx,L80,m97,S80,hmid,hx,hm2,ks_length,c]
      . simp only at ht'
        have hl:¬lo (yat l ((i+j)/2)) p s:=fun h=>hc ((cv_lt hvk hr.1 hr.2).2 h)
        by_cases h5:t=(i+j)/2
        . rw[h5];exact hl
        . have:=hv.lt (show(i+j)/2<t by omega) h6
          unfold lo at *;omega)
  (fun a ⟨h1,h2,h3⟩ hg=>by
    simp only[decide_eq_false_iff_not]at hg
    simp(disch:=((fail_if_success (intro _));omega)) only[go_sem,simprocAttr,↓reduceIte,↓Nat.reduceEqDiff,xx,L80,m97,S80,ks_length])
 simp only[decide_eq_false_iff_not]at hgo i1 i2 i3
 obtain rfl:k=k':=by omega
 simp only[L80,m97]at hit
 refine⟨k,i2,fun hr=>⟨i2,(i3 hr).1,(i3 hr).2⟩,?_⟩
 by_cases hkl:k<l.length
 . have hx:=ks_at hkl
   have hm2:=hm.eq hkl
   have c:=c81 k
   rw[decide_eq_true hkl,Bool.true_and]
   rw[call_gen (fd:=fd97) rfl]
   simp(disch:=((fail_if_success (intro _));omega)) only[go_sem,simprocAttr,↓reduceIte,↓Nat.reduceEqDiff,xx,fd97,m97,ks_length]
   rw[hit _ (by simp(disch:=((fail_if_success (intro _));omega)) only[go_sem,simprocAttr,↓reduceIte,↓Nat.reduceEqDiff,xx,S80])]
   simp(disch:=((fail_if_success (intro _));omega)) only[go_sem,simprocAttr,↓reduceIte,↓Nat.reduceEqDiff,xx,S80,ks_length,hx,hm2,c]
 . rw[decide_eq_false hkl,Bool.false_and]
   rw[call_gen (fd:=fd97) rfl]
   simp(disch:=((fail_if_success (intro _));omega)) only[go_sem,simprocAttr,↓reduceIte,↓Nat.reduceEqDiff,xx,fd97,m97,ks_length]
   rw[hit _ (by simp(disch:=((fail_if_success (intro _));omega)) only[go_sem,simprocAttr,↓reduceIte,↓Nat.reduceEqDiff,xx,S80])]
   simp(disch:=((fail_if_success (intro _));omega)) only[go_sem,simprocAttr,↓reduceIte,↓Nat.reduceEqDiff,xx,S80,ks_length]
def Is (l:List Ky)(p s:Int)(k:Nat):Prop:=k<l.length/\(yat l k).p=p/\(yat l k).s=s
theorem is_one {l:List Ky}(hv:VR l){p s:Int}{i j:Nat}(h1:Is l p s i)(h2:Is l p s j):i=j:=by
 obtain⟨a1,a2,a3⟩:=h1
 obtain⟨b1,b2,b3⟩:=h2
 rcases Nat.lt_trichotomy i j with h|h|h
 . have:=hv.lt h b1;unfold lo at this;omega
 . exact h
 . have:=hv.lt h a1;unfold lo at this;omega
theorem place_at (h:3<=n){f:Bool}{m:Sh}{l:List Ky}(hm:Mk l m)(hv:VR l){p s:Int}(hp:R64 p)(hs:R64 s) :
  ∃(k:Nat) (b:Bool),k<=l.length/\(Inr p s->Pl l p s k)/\(b=true↔Is l p s k)/\(b=false->∀i,¬Is l p s i)/\call gl tab n 85 [.lst f m (ks l),i64 p,i64 s] []=some (.tup [i64 k,.bool b],[],[]):=by
 obtain⟨d,rfl⟩:=Nat.exists_eq_add_of_le' h
 obtain⟨k,hk,hpl,c80⟩:=@search_at gl (d+2) (by omega) f m l hm hv p s
 have hb:(decide (k<l.length)&&(cv (yat l k) p s==0))=true↔Is l p s k:=by
  rw[Bool.and_eq_true,decide_eq_true_eq,beq_iff_eq]
  exact⟨fun⟨h1,h2⟩=>⟨h1,(cv_0 (hv.ok k h1).v hp hs).1 h2⟩,fun⟨h1,h2⟩=>⟨h1,(cv_0 (hv.ok k h1).v hp hs).2 h2⟩⟩
 refine⟨k,_,hk,hpl,hb,fun e i hi=> ?_,?_⟩
 . obtain⟨h1,h2,h3⟩:=hi
   have v:=(hv.ok i h1).v
   have v1:=v.p;have v2:=v.s
   have hP:=hpl ⟨by omega,by omega⟩
   have hik:k=i:=by
    rcases Nat.lt_trichotomy i k with h|h|h
    . have:=hP.lo i h;unfold lo at this;omega
    . exact h.symm
    . exfalso
      have a1:=hv.lt h h1
      have a2:=hP.hi k (Nat.le_refl _) (by omega)
      rw[h2,h3]at a1;exact a2 a1
   subst hik
   rw[hb.2 ⟨h1,h2,h3⟩]at e;cases e
 . generalize (decide (k<l.length)&&(cv (yat l k) p s==0))=b at *
   rw[call_go (fd:=fd85) rfl]
   simp(disch:=((fail_if_success (intro _));omega)) only[go_sem,simprocAttr,↓reduceIte,↓Nat.reduceEqDiff,xx,fd85,m85,c80]
theorem find_is (h:4<=n){f:Bool}{m:Sh}{l:List Ky}(hm:Mk l m)(hv:VR l){p s:Int}(hp:R64 p)(hs:R64 s){k:Nat}(hk:Is l p s k) :
  call gl tab n 74 [.lst f m (ks l),i64 p,i64 s] []=some (.tup [ky (yat l k),i64 0],[],[]):=by
 obtain⟨d,rfl⟩:=Nat.exists_eq_add_of_le' h
 obtain⟨j,b,hj,hpl,hb,hn,c57⟩:=@place_at gl (d+3) (by omega) f m l hm hv p s hp hs
 cases b with
 | false=>exact absurd hk (hn rfl k)
 | true =>
   obtain rfl:=is_one hv (hb.1 rfl) hk
   have hx:=ks_at hk.1
   obtain rfl:=hm.eq hk.1
   have hk1:=hk.1
   have hn:=hv.n
   rw[call_go (fd:=fd74) rfl]
   simp(disch:=((fail_if_success (intro _));omega)) only[go_sem,simprocAttr,↓reduceIte,↓Nat.reduceEqDiff,xx,fd74,m74,c57,hx,ks_length]
abbrev ky0 :AV:=.agg [i64 0,i64 0,.str [],i64 0,i64 0]
theorem find_no (h:4<=n){f:Bool}{m:Sh}{l:List Ky}(hm:Mk l m)(hv:VR l){p s:Int}(hp:R64 p)(hs:R64 s)(hk:∀k,¬Is l p s k) :
  call gl tab n 74 [.lst f m (ks l),i64 p,i64 s] []=some (.tup [ky0,i64 5],[],[]):=by
 obtain⟨d,rfl⟩:=Nat.exists_eq_add_of_le' h
 obtain⟨j,b,hj,hpl,hb,hn,c57⟩:=@place_at gl (d+3) (by omega) f m l hm hv p s hp hs
 cases b with
 | true=>exact absurd (hb.1 rfl) (hk j)
 | false =>
   rw[call_go (fd:=fd74) rfl]
   simp(disch:=((fail_if_success (intro _));omega)) only[go_sem,simprocAttr,↓reduceIte,↓Nat.reduceEqDiff,xx,fd74,m74,c57]
def S17 (f:Bool)(m:Sh)(l:List Ky)(p s:Int)(i:Nat):St :=
 ⟨[.set 7 (i64 i),.set 6 (.ptr 6 []),.set 2 (i64 s),.set 1 (i64 p),.set 0 (.lst f m (ks l))],[(6,.fix (.st [sY,.sc]) (.agg [ky0,i64 0]))]⟩
theorem yat_eq {l:List Ky}{i:Nat}(h:i<l.length):yat l i=l[i]:=by simp[yat,h]
theorem R64.of {a:Int}(h:1<=a/\a<=1073741824):R64 a:=by unfold R64;omega
theorem pfinds (h:4<=n){f:Bool}{m:Sh}{l:List Ky}(hm:Mk l m)(hv:VR l){p s:Int}(hp:R64 p)(hs:R64 s) :
  (∃k,Is l p s k/\call gl tab n 74 [.lst f m (ks l),i64 p,i64 s] []=some (.tup [ky (yat l k),i64 0],[],[])) \/
  (∀k,¬Is l p s k)/\call gl tab n 74 [.lst f m (ks l),i64 p,i64 s] []=some (.tup [ky0,i64 5],[],[]):=by
 by_cases hk:∃k,Is l p s k
 . obtain⟨k,hk⟩:=hk
   exact .inl ⟨k,hk,find_is h hm hv hp hs hk⟩
 . have hk:∀k,¬Is l p s k:=fun k h=>hk ⟨k,h⟩
   exact .inr ⟨hk,find_no h hm hv hp hs hk⟩
end Go.Proofs.S30
namespace Go.Proofs.S30.H
open Go Go.Ev Go.Proofs Go.Proofs.S30
abbrev i64 (n:Int):AV:=.int .i64 n
abbrev u64 (x:BitVec 64):AV:=.int .u64 (x.toNat:Int)
abbrev u32 (x:BitVec 32):AV:=.int .u32 (x.toNat:Int)
abbrev u8 (x:BitVec 8):AV:=.int .u8 (x.toNat:Int)
def ub (b:BitVec 8):UInt8:=⟨b⟩
structure GlK (gl:Gl):Prop where
 k:gl.tbl 1=some (.ar 64 .sc,.agg kA)
structure GlR (gl:Gl):Prop where
 r:gl.tbl 0=some (.ar 64 .sc,.agg kA)
def strsAV (l:List (List UInt8)):List AV:=l.map fun x=>.str x
theorem strsAV_length (l:List (List UInt8)):(strsAV l).length=l.length:=by simp[strsAV]
theorem strsAV_get {l:List (List UInt8)}{i:Nat}(h:i<l.length):(strsAV l)[i]? =some (.str l[i]):=by
 rw[strsAV,List.getElem?_map,List.getElem?_eq_getElem h];rfl
theorem strsAV_take (l:List (List UInt8))(k:Nat):(strsAV l).take k=strsAV (l.take k):=by simp[strsAV,List.map_take]
theorem wrap_succ {i:Nat}(h:i<2^62):IntKind.wrap .i64 ((i:Int)+1)=((i+1:Nat):Int):=by
 rw[wrap_i64 (by omega) (by omega)];rfl
theorem glK {gl:Gl}[h:Nonempty (GlK gl)]:gl.tbl 1=some (.ar 64 .sc,.agg kA):=h.elim fun h=>h.k
theorem glR {gl:Gl}[h:Nonempty (GlR gl)]:gl.tbl 0=some (.ar 64 .sc,.agg kA):=h.elim fun h=>h.r
theorem bytesAV_snoc (l:List UInt8)(b:BitVec 8):bytesAV (l++[ub b])=bytesAV l++[.int .u8 (b.toNat:Int)]:=by
 simp[bytesAV,ub]
theorem bytesAV_take' {l:List UInt8}{n:Nat}(h:l.length=n):(bytesAV l).take n=bytesAV l:=by rw[<-h,bytesAV_take]
theorem lim_of {n:Nat}(h:n<2^36):n+1<=LIM:=by unfold LIM;omega
theorem bytesAV_append (a b:List UInt8):bytesAV (a++b)=bytesAV a++bytesAV b:=by simp[bytesAV]
theorem rem_nat (a b:Nat)(h:0<b):binInt .rem .i64 (a:Int) (b:Int)=some (.int .i64 ((a%b:Nat):Int)):=by
 have hb:¬((b:Int)=0):=by omega
 simp only[binInt,hb,if_false];rfl
theorem noImms_bytesAV :∀l:List UInt8,noImms (bytesAV l)=true
 | []=>rfl
 | b::l=>by
   show(noImm (.int .u8 (b.toNat:Int))&&noImms (bytesAV l))=true
   rw[noImms_bytesAV l];rfl
end Go.Proofs.S30.H
