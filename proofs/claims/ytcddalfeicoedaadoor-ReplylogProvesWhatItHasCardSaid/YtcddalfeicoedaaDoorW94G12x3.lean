/-
  Hash trees, in plain terms: several elements, peaks, collisions. No condition.
-/
import Derived.Test.YtcddalfeicoedaaDoorMkA
set_option linter.all false
open Nat renaming pow_succ->wA,two_pow_pos->wB,le_refl->wC,add_sub_cancel'->wD,zero_le->wE
open List renaming length_eq_zero_iff->wF,length_drop->wG,take_length->wH,drop_length->wI
namespace Go.Mk
variable {D :Type} {node:D->D->D} {emp:D}
end Go.Mk
namespace Go.Mk
def pcn (n:Nat):Nat:=if h:n=0 then 0 else n%2+pcn (n/2)
def tr1 (n:Nat):Nat:=if h:n%2=1 then tr1 (n/2)+1 else 0
termination_by n
decreasing_by omega
theorem pcn_0 :pcn 0=0:=by rw[pcn,dif_pos rfl]
theorem qft {n:Nat}(h:n≠0):pcn n=n%2+pcn (n/2):=by rw[pcn,dif_neg h]
theorem pcn_two (n:Nat):pcn n=n%2+pcn (n/2):=by
 by_cases h:n=0
 . subst h;simp[pcn_0]
 . exact qft h
theorem zx9 {n:Nat}(h:n%2=1):tr1 n=tr1 (n/2)+1:=by rw[tr1,dif_pos h]
theorem zp9 {n:Nat}(h:n%2=0):tr1 n=0:=by rw[tr1,dif_neg (by omega)]
theorem zuh :∀(k r:Nat),r<2^k->pcn (2^k+r)=1+pcn r
 | 0,r,h=>by
   obtain rfl:r=0:=by simp at h;omega
   rw[pcn_two,pcn_0]
 | k+1,r,h=>by
   have e:2^(k+1)=2*2^k:=by rw[wA];omega
   have ih:=zuh k (r/2) (by omega)
   rw[pcn_two (2^(k+1)+r),pcn_two r,show(2^(k+1)+r)%2=r%2 by omega,show(2^(k+1)+r)/2=2^k+r/2 by omega,ih]
   omega
theorem zt0 :∀(q n:Nat),n<=q->tr1 n<=pcn n
 | 0,n,h=>by
   obtain rfl:n=0:=by omega
   rw[zp9 rfl];exact wE _
 | q+1,n,h=>by
   by_cases ho:n%2=1
   . rw[zx9 ho,pcn_two,ho]
     have:=zt0 q (n/2) (by omega)
     omega
   . rw[zp9 (by omega)];exact wE _
theorem zt1 :∀(k r:Nat),r+1<2^k->tr1 (2^k+r)=tr1 r
 | 0,r,h=>by simp at h
 | k+1,r,h=>by
   have e:2^(k+1)=2*2^k:=by rw[wA];omega
   by_cases ho:r%2=1
   . rw[zx9 (show(2^(k+1)+r)%2=1 by omega),zx9 ho,show(2^(k+1)+r)/2=2^k+r/2 by omega,zt1 k (r/2) (by omega)]
   . rw[zp9 (show(2^(k+1)+r)%2=0 by omega),zp9 (by omega)]
theorem zn5 :∀(k:Nat),tr1 (2^k-1)=k/\pcn (2^k-1)=k
 | 0=>by rw[zp9 (by simp)];exact⟨rfl,pcn_0⟩
 | k+1=>by
   have e:2^(k+1)=2*2^k:=by rw[wA];omega
   have hp:=wB k
   obtain⟨h1,h2⟩:=zn5 k
   rw[zx9 (by omega),pcn_two,show(2^(k+1)-1)/2=2^k-1 by omega,h1,h2]
   exact⟨rfl,by omega⟩
section
variable {D :Type} (node:D->D->D) (emp:D)
def gp (n:Nat):Nat:=2^n.log2
theorem z9p {n:Nat}(h:n≠0):gp n<=n:=Nat.log2_self_le h
theorem zuy (n:Nat):0<gp n:=wB _
theorem z9o (n:Nat):n<2*gp n:=by
 have:=@Nat.lt_log2_self n
 unfold gp
 rw[wA]at this
 omega
theorem zrd {n k:Nat}(h1:2^k<=n)(h2:n<2^(k+1)):gp n=2^k:=by
 unfold gp
 congr 1
 rw[Nat.log2_eq_iff (by have:=wB k;omega)]
 exact⟨h1,h2⟩
def pk (l:List D):List D :=
 if h:l.length=0 then []else rt node emp (l.take (gp l.length))::pk (l.drop (gp l.length))
termination_by l.length
decreasing_by
 have:=zuy l.length;rw[wG];omega
def tpF :List D->D
 | []=>emp
 | [d]=>d
 | d::e::l=>node d (tpF (e::l))
variable {node emp}
theorem zid :pk node emp ([]:List D)=[]:=by rw[pk,dif_pos (show([]:List D).length=0 from rfl)]
theorem pk_s {l:List D}(h:l.length≠0):pk node emp l=rt node emp (l.take (gp l.length))::pk node emp (l.drop (gp l.length)):=by rw[pk,dif_neg h]
theorem qce {l:List D}(h:l.length≠0):∃d r,pk node emp l=d::r:=⟨_,_,pk_s h⟩
theorem zov {l:List D}{k:Nat}(h:l.length=2^k):pk node emp l=[rt node emp l]:=by
 have hp:=wB k
 have hg:gp l.length=l.length:=by rw[h];exact zrd (wC _) (by rw[wA];omega)
 rw[pk_s (by omega),hg,wH,wI,zid]
theorem zzd :∀(q:Nat) (l:List D),l.length<=q->(pk node emp l).length=pcn l.length
 | 0,l,h=>by
   obtain rfl:l=[]:=wF.1 (by omega)
   rw[zid];exact pcn_0.symm
 | q+1,l,h=>by
   by_cases h0:l.length=0
   . obtain rfl:l=[]:=wF.1 h0
     rw[zid];exact pcn_0.symm
   have hle:=z9p h0
   have hlt:=z9o l.length
   have hp:=zuy l.length
   rw[pk_s h0,List.length_cons,zzd q _ (by rw[wG];omega),wG]
   have:=zuh l.length.log2 (l.length-gp l.length) (by unfold gp at *;omega)
   rw[show 2^l.length.log2=gp l.length from rfl,wD hle]at this
   omega
theorem qbg :∀(q:Nat) (l:List D),l.length<=q->tpF node emp (pk node emp l)=rt node emp l
 | 0,l,h=>by
   obtain rfl:l=[]:=wF.1 (by omega)
   rw[zid,zqd];rfl
 | q+1,l,h=>by
   by_cases h0:l.length=0
   . obtain rfl:l=[]:=wF.1 h0
     rw[zid,zqd];rfl
   have hle:=z9p h0
   have hlt:=z9o l.length
   have hp:=zuy l.length
   by_cases he:gp l.length=l.length
   . rw[pk_s h0,he,wH,wI,zid];rfl
   . have hs:spl l.length=gp l.length:=ziw (k:=l.length.log2) (by unfold gp at *;omega) (by rw[wA];unfold gp at *;omega)
     have hd:(l.drop (gp l.length)).length≠0:=by rw[wG];omega
     have ih:=qbg q (l.drop (gp l.length)) (by rw[wG];omega)
     have er:rt node emp l=node (rt node emp (l.take (gp l.length))) (rt node emp (l.drop (gp l.length))):=by rw[zh9 (l:=l) (by omega),hs]
     rw[pk_s h0,er,<-ih]
     obtain⟨d,r,e⟩:=qce (node:=node) (emp:=emp) hd
     rw[e];rfl
variable (node)
def jn (z:D)(q:List D×D):List D×D:=(q.1.dropLast,node (q.1.getLastD z) q.2)
def jns (z:D):Nat->List D×D->List D×D
 | 0,q=>q
 | t+1,q=>jns z t (jn node z q)
variable {node}
theorem zz6 (z:D):∀(t s:Nat) (q:List D×D),jns node z (t+s) q=jns node z s (jns node z t q)
 | 0,s,q=>by rw[Nat.zero_add];rfl
 | t+1,s,q=>by rw[show t+1+s=(t+s)+1 by omega,jns,jns,zz6 z t s]
theorem zo9 (z x:D):∀(t:Nat) (l:List D) (d:D),t<=l.length->jns node z t (x::l,d)=(x::(jns node z t (l,d)).1,(jns node z t (l,d)).2)
 | 0,l,d,h=>rfl
 | t+1,l,d,h=>by
   have hl:l≠[]:=by rintro rfl;simp at h
   have e:jn node z (x::l,d)=(x::(jn node z (l,d)).1,(jn node z (l,d)).2):=by
    unfold jn
    simp only
    rw[List.dropLast_cons_of_ne_nil hl]
    congr 2
    cases l with
    | nil=>exact absurd rfl hl
    | cons y l=>simp
   rw[jns,jns,e,zo9 z x t _ _ (by unfold jn;rw[List.length_dropLast];show t<=l.length-1;omega)]
theorem qez (z:D):∀(q:Nat) (l:List D) (d:D),l.length<=q->(jns node z (tr1 l.length) (pk node emp l,d)).1++[(jns node z (tr1 l.length) (pk node emp l,d)).2]=pk node emp (l++[d])
 | 0,l,d,h=>by
   obtain rfl:l=[]:=wF.1 (by omega)
   rw[zid,zp9 rfl,zov (k:=0) (by simp)]
   simp[jns,zub]
 | q+1,l,d,h=>by
   by_cases h0:l.length=0
   . obtain rfl:l=[]:=wF.1 h0
     rw[zid,zp9 rfl,zov (k:=0) (by simp)]
     simp[jns,zub]
   have hle:=z9p h0
   have hlt:=z9o l.length
   have hp:=zuy l.length
   have hd:(l.drop (gp l.length)).length=l.length-gp l.length:=wG
   have ih:=qez z q (l.drop (gp l.length)) d (by omega)
   have hpl:=zzd (node:=node) (emp:=emp) q (l.drop (gp l.length)) (by omega)
   have htl:=zt0 _ (l.length-gp l.length) (wC _)
   have hla:(l++[d]).length=l.length+1:=by simp
   rw[hd]at ih hpl
   have htk:(l++[d]).take (gp l.length)=l.take (gp l.length):=List.take_append_of_le_length hle
   have hdr:(l++[d]).drop (gp l.length)=l.drop (gp l.length)++[d]:=List.drop_append_of_le_length hle
   by_cases hf:l.length+1=2*gp l.length
   ·
    have e1:l.length-gp l.length=2^l.length.log2-1:=by unfold gp at *;omega
    have e2:l.length=2^(l.length.log2+1)-1:=by rw[wA];unfold gp at *;omega
    have t1:=(zn5 l.length.log2).1
    have t2:=(zn5 (l.length.log2+1)).1
    rw[<-e1]at t1
    rw[<-e2]at t2
    rw[t1]at ih htl
    have hB:(l.drop (gp l.length)++[d]).length=2^l.length.log2:=by rw[List.length_append,hd];unfold gp at *;simp;omega
    rw[zov hB]at ih
    have hA:(l++[d]).length=2^(l.length.log2+1):=by rw[hla,wA];unfold gp at *;omega
    have hsp:spl (l++[d]).length=gp l.length:=by
     rw[hA]
     exact ziw (k:=l.length.log2) (by rw[wA];omega) (wC _)
    rw[zov hA,zh9 (by rw[hA,wA];unfold gp at *;omega),hsp,htk,hdr,pk_s h0,t2,zz6,zo9 z _ _ _ _ (by omega)]
    generalize jns node z l.length.log2 (pk node emp (l.drop (gp l.length)),d)=w at *
    obtain⟨w1,w2⟩:=w
    simp only at ih
    have hw:w1=[]/\w2=rt node emp (l.drop (gp l.length)++[d]):=by
     cases w1 with
     | nil=>simpa using ih
     | cons a b=>simp at ih
    obtain⟨rfl,rfl⟩:=hw
    rfl
   . have hg:gp (l.length+1)=gp l.length:=zrd (k:=l.length.log2) (by unfold gp at *;omega) (by rw[wA];unfold gp at *;omega)
     have ht:tr1 l.length=tr1 (l.length-gp l.length):=by
      have:=zt1 l.length.log2 (l.length-gp l.length) (by unfold gp at *;omega)
      rw[show 2^l.length.log2=gp l.length from rfl,wD hle]at this
      exact this
     rw[pk_s (l:=l++[d]) (by omega),hla,hg,htk,hdr,<-ih,pk_s h0,ht,zo9 z _ _ _ _ (by omega)]
     rfl
end
end Go.Mk
