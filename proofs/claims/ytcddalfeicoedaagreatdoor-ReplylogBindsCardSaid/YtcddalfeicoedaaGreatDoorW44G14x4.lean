/-
  Hash trees, in plain terms: several elements, peaks, collisions. No condition.
-/
import Derived.Test.YtcddalfeicoedaaGreatDoorW44G13x4
set_option linter.all false
open Nat renaming pow_succ->wA,two_pow_pos->wB,le_refl->wC,add_sub_cancel'->wD,zero_le->wE
open List renaming length_eq_zero_iff->wF,length_drop->wG,take_length->wH,drop_length->wI
namespace Go.Mk
variable {D :Type} {node:D->D->D} {emp:D}
end Go.Mk
namespace Go.Mk
def pcn (n:Nat):Nat:=if h:n=0 then 0 else n%2+pcn (n/2)
def tr1 (n:Nat):Nat:=if h:n%2=1 then tr1 (n/2)+1 else 0
termination_by n
decreasing_by omega
theorem pcn_0 :pcn 0=0:=by rw[pcn,dif_pos rfl]
theorem qg1 {n:Nat}(h:n≠0):pcn n=n%2+pcn (n/2):=by rw[pcn,dif_neg h]
theorem pcn_two (n:Nat):pcn n=n%2+pcn (n/2):=by
 by_cases h:n=0
 . subst h;simp[pcn_0]
 . exact qg1 h
theorem zyd {n:Nat}(h:n%2=1):tr1 n=tr1 (n/2)+1:=by rw[tr1,dif_pos h]
theorem zp7 {n:Nat}(h:n%2=0):tr1 n=0:=by rw[tr1,dif_neg (by omega)]
theorem zuc :∀(k r:Nat),r<2^k->pcn (2^k+r)=1+pcn r
 | 0,r,h=>by
   obtain rfl:r=0:=by simp at h;omega
   rw[pcn_two,pcn_0]
 | k+1,r,h=>by
   have e:2^(k+1)=2*2^k:=by rw[wA];omega
   have ih:=zuc k (r/2) (by omega)
   rw[pcn_two (2^(k+1)+r),pcn_two r,show(2^(k+1)+r)%2=r%2 by omega,show(2^(k+1)+r)/2=2^k+r/2 by omega,ih]
   omega
theorem ztu :∀(q n:Nat),n<=q->tr1 n<=pcn n
 | 0,n,h=>by
   obtain rfl:n=0:=by omega
   rw[zp7 rfl];exact wE _
 | q+1,n,h=>by
   by_cases ho:n%2=1
   . rw[zyd ho,pcn_two,ho]
     have:=ztu q (n/2) (by omega)
     omega
   . rw[zp7 (by omega)];exact wE _
theorem ztv :∀(k r:Nat),r+1<2^k->tr1 (2^k+r)=tr1 r
 | 0,r,h=>by simp at h
 | k+1,r,h=>by
   have e:2^(k+1)=2*2^k:=by rw[wA];omega
   by_cases ho:r%2=1
   . rw[zyd (show(2^(k+1)+r)%2=1 by omega),zyd ho,show(2^(k+1)+r)/2=2^k+r/2 by omega,ztv k (r/2) (by omega)]
   . rw[zp7 (show(2^(k+1)+r)%2=0 by omega),zp7 (by omega)]
theorem zn6 :∀(k:Nat),tr1 (2^k-1)=k/\pcn (2^k-1)=k
 | 0=>by rw[zp7 (by simp)];exact⟨rfl,pcn_0⟩
 | k+1=>by
   have e:2^(k+1)=2*2^k:=by rw[wA];omega
   have hp:=wB k
   obtain⟨h1,h2⟩:=zn6 k
   rw[zyd (by omega),pcn_two,show(2^(k+1)-1)/2=2^k-1 by omega,h1,h2]
   exact⟨rfl,by omega⟩
section
variable {D :Type} (node:D->D->D) (emp:D)
def gp (n:Nat):Nat:=2^n.log2
theorem qau {n:Nat}(h:n≠0):gp n<=n:=Nat.log2_self_le h
theorem zuv (n:Nat):0<gp n:=wB _
theorem qat (n:Nat):n<2*gp n:=by
 have:=@Nat.lt_log2_self n
 unfold gp
 rw[wA]at this
 omega
theorem zrd {n k:Nat}(h1:2^k<=n)(h2:n<2^(k+1)):gp n=2^k:=by
 unfold gp
 congr 1
 rw[Nat.log2_eq_iff (by have:=wB k;omega)]
 exact⟨h1,h2⟩
def pk (l:List D):List D :=
 if h:l.length=0 then []else rt node emp (l.take (gp l.length))::pk (l.drop (gp l.length))
termination_by l.length
decreasing_by
 have:=zuv l.length;rw[wG];omega
def tpF :List D->D
 | []=>emp
 | [d]=>d
 | d::e::l=>node d (tpF (e::l))
variable {node emp}
theorem zij :pk node emp ([]:List D)=[]:=by rw[pk,dif_pos (show([]:List D).length=0 from rfl)]
theorem pk_s {l:List D}(h:l.length≠0):pk node emp l=rt node emp (l.take (gp l.length))::pk node emp (l.drop (gp l.length)):=by rw[pk,dif_neg h]
theorem qdp {l:List D}(h:l.length≠0):∃d r,pk node emp l=d::r:=⟨_,_,pk_s h⟩
theorem zoy {l:List D}{k:Nat}(h:l.length=2^k):pk node emp l=[rt node emp l]:=by
 have hp:=wB k
 have hg:gp l.length=l.length:=by rw[h];exact zrd (wC _) (by rw[wA];omega)
 rw[pk_s (by omega),hg,wH,wI,zij]
theorem zzf :∀(q:Nat) (l:List D),l.length<=q->(pk node emp l).length=pcn l.length
 | 0,l,h=>by
   obtain rfl:l=[]:=wF.1 (by omega)
   rw[zij];exact pcn_0.symm
 | q+1,l,h=>by
   by_cases h0:l.length=0
   . obtain rfl:l=[]:=wF.1 h0
     rw[zij];exact pcn_0.symm
   have hle:=qau h0
   have hlt:=qat l.length
   have hp:=zuv l.length
   rw[pk_s h0,List.length_cons,zzf q _ (by rw[wG];omega),wG]
   have:=zuc l.length.log2 (l.length-gp l.length) (by unfold gp at *;omega)
   rw[show 2^l.length.log2=gp l.length from rfl,wD hle]at this
   omega
theorem qcl :∀(q:Nat) (l:List D),l.length<=q->tpF node emp (pk node emp l)=rt node emp l
 | 0,l,h=>by
   obtain rfl:l=[]:=wF.1 (by omega)
   rw[zij,zqd];rfl
 | q+1,l,h=>by
   by_cases h0:l.length=0
   . obtain rfl:l=[]:=wF.1 h0
     rw[zij,zqd];rfl
   have hle:=qau h0
   have hlt:=qat l.length
   have hp:=zuv l.length
   by_cases he:gp l.length=l.length
   . rw[pk_s h0,he,wH,wI,zij];rfl
   . have hs:spl l.length=gp l.length:=zmz (k:=l.length.log2) (by unfold gp at *;omega) (by rw[wA];unfold gp at *;omega)
     have hd:(l.drop (gp l.length)).length≠0:=by rw[wG];omega
     have ih:=qcl q (l.drop (gp l.length)) (by rw[wG];omega)
     have er:rt node emp l=node (rt node emp (l.take (gp l.length))) (rt node emp (l.drop (gp l.length))):=by rw[zm4 (l:=l) (by omega),hs]
     rw[pk_s h0,er,<-ih]
     obtain⟨d,r,e⟩:=qdp (node:=node) (emp:=emp) hd
     rw[e];rfl
variable (node)
def jn (z:D)(q:List D×D):List D×D:=(q.1.dropLast,node (q.1.getLastD z) q.2)
def jns (z:D):Nat->List D×D->List D×D
 | 0,q=>q
 | t+1,q=>jns z t (jn node z q)
variable {node}
theorem zz6 (z:D):∀(t s:Nat) (q:List D×D),jns node z (t+s) q=jns node z s (jns node z t q)
 | 0,s,q=>by rw[Nat.zero_add];rfl
 | t+1,s,q=>by rw[show t+1+s=(t+s)+1 by omega,jns,jns,zz6 z t s]
theorem zpc (z x:D):∀(t:Nat) (l:List D) (d:D),t<=l.length->jns node z t (x::l,d)=(x::(jns node z t (l,d)).1,(jns node z t (l,d)).2)
 | 0,l,d,h=>rfl
 | t+1,l,d,h=>by
   have hl:l≠[]:=by rintro rfl;simp at h
   have e:jn node z (x::l,d)=(x::(jn node z (l,d)).1,(jn node z (l,d)).2):=by
    unfold jn
    simp only
    rw[List.dropLast_cons_of_ne_nil hl]
    congr 2
    cases l with
    | nil=>exact absurd rfl hl
    | cons y l=>simp
   rw[jns,jns,e,zpc z x t _ _ (by unfold jn;rw[List.length_dropLast];show t<=l.length-1;omega)]
theorem qf6 (z:D):∀(q:Nat) (l:List D) (d:D),l.length<=q->(jns node z (tr1 l.length) (pk node emp l,d)).1++[(jns node z (tr1 l.length) (pk node emp l,d)).2]=pk node emp (l++[d])
 | 0,l,d,h=>by
   obtain rfl:l=[]:=wF.1 (by omega)
   rw[zij,zp7 rfl,zoy (k:=0) (by simp)]
   simp[jns,zt3]
 | q+1,l,d,h=>by
   by_cases h0:l.length=0
   . obtain rfl:l=[]:=wF.1 h0
     rw[zij,zp7 rfl,zoy (k:=0) (by simp)]
     simp[jns,zt3]
   have hle:=qau h0
   have hlt:=qat l.length
   have hp:=zuv l.length
   have hd:(l.drop (gp l.length)).length=l.length-gp l.length:=wG
   have ih:=qf6 z q (l.drop (gp l.length)) d (by omega)
   have hpl:=zzf (node:=node) (emp:=emp) q (l.drop (gp l.length)) (by omega)
   have htl:=ztu _ (l.length-gp l.length) (wC _)
   have hla:(l++[d]).length=l.length+1:=by simp
   rw[hd]at ih hpl
   have htk:(l++[d]).take (gp l.length)=l.take (gp l.length):=List.take_append_of_le_length hle
   have hdr:(l++[d]).drop (gp l.length)=l.drop (gp l.length)++[d]:=List.drop_append_of_le_length hle
   by_cases hf:l.length+1=2*gp l.length
   ·
    have e1:l.length-gp l.length=2^l.length.log2-1:=by unfold gp at *;omega
    have e2:l.length=2^(l.length.log2+1)-1:=by rw[wA];unfold gp at *;omega
    have t1:=(zn6 l.length.log2).1
    have t2:=(zn6 (l.length.log2+1)).1
    rw[<-e1]at t1
    rw[<-e2]at t2
    rw[t1]at ih htl
    have hB:(l.drop (gp l.length)++[d]).length=2^l.length.log2:=by rw[List.length_append,hd];unfold gp at *;simp;omega
    rw[zoy hB]at ih
    have hA:(l++[d]).length=2^(l.length.log2+1):=by rw[hla,wA];unfold gp at *;omega
    have hsp:spl (l++[d]).length=gp l.length:=by
     rw[hA]
     exact zmz (k:=l.length.log2) (by rw[wA];omega) (wC _)
    rw[zoy hA,zm4 (by rw[hA,wA];unfold gp at *;omega),hsp,htk,hdr,pk_s h0,t2,zz6,zpc z _ _ _ _ (by omega)]
    generalize jns node z l.length.log2 (pk node emp (l.drop (gp l.length)),d)=w at *
    obtain⟨w1,w2⟩:=w
    simp only at ih
    have hw:w1=[]/\w2=rt node emp (l.drop (gp l.length)++[d]):=by
     cases w1 with
     | nil=>simpa using ih
     | cons a b=>simp at ih
    obtain⟨rfl,rfl⟩:=hw
    rfl
   . have hg:gp (l.length+1)=gp l.length:=zrd (k:=l.length.log2) (by unfold gp at *;omega) (by rw[wA];unfold gp at *;omega)
     have ht:tr1 l.length=tr1 (l.length-gp l.length):=by
      have:=ztv l.length.log2 (l.length-gp l.length) (by unfold gp at *;omega)
      rw[show 2^l.length.log2=gp l.length from rfl,wD hle]at this
      exact this
     rw[pk_s (l:=l++[d]) (by omega),hla,hg,htk,hdr,<-ih,pk_s h0,ht,zpc z _ _ _ _ (by omega)]
     rfl
end
end Go.Mk
