/-
  Hash trees, in plain terms: peaks. No condition.
-/
import Derived.Test.YtcddalfeicoedaaGreatDoorW44G12x6
import Derived.Test.YtcddalfeicoedaaGreatDoorW44G5x6
import Derived.Test.YtcddalfeicoedaaGreatDoorEvY
set_option linter.all false
open Nat renaming exists_eq_add_of_le'->wA,pow_succ->wB,two_pow_pos->wC,le_refl->wD,add_sub_cancel'->wE,lt_log2_self->wF,log2_self_le->wG,log2_eq_iff->wH,zero_le->wI,pow_add->wJ
open List renaming length_eq_zero_iff->wK,map_cons->wL,map_nil->wM,length_drop->wN,take_length->wO
open Int renaming zero_add->wP
namespace Go.Mk
def pcn (n:Nat):Nat:=if h:n=0 then 0 else n%2+pcn (n/2)
def tr1 (n:Nat):Nat:=if h:n%2=1 then tr1 (n/2)+1 else 0
termination_by n
decreasing_by omega
theorem pcn_0 :pcn 0=0:=by rw[pcn,dif_pos rfl]
theorem qik {n:Nat}(h:n≠0):pcn n=n%2+pcn (n/2):=by rw[pcn,dif_neg h]
theorem pcn_two (n:Nat):pcn n=n%2+pcn (n/2):=by
 by_cases h:n=0
 . subst h;simp[pcn_0]
 . exact qik h
theorem zsf {n:Nat}(h:n%2=1):tr1 n=tr1 (n/2)+1:=by rw[tr1,dif_pos h]
theorem zks {n:Nat}(h:n%2=0):tr1 n=0:=by rw[tr1,dif_neg (by omega)]
theorem zux :∀(k r:Nat),r<2^k->pcn (2^k+r)=1+pcn r
 | 0,r,h=>by
   obtain rfl:r=0:=by simp at h;omega
   rw[pcn_two,pcn_0]
 | k+1,r,h=>by
   have e:2^(k+1)=2*2^k:=by rw[wB];omega
   have ih:=zux k (r/2) (by omega)
   rw[pcn_two (2^(k+1)+r),pcn_two r,show(2^(k+1)+r)%2=r%2 by omega,show(2^(k+1)+r)/2=2^k+r/2 by omega,ih]
   omega
theorem zqk :∀(q n:Nat),n<=q->tr1 n<=pcn n
 | 0,n,h=>by
   obtain rfl:n=0:=by omega
   rw[zks rfl];exact wI _
 | q+1,n,h=>by
   by_cases ho:n%2=1
   . rw[zsf ho,pcn_two,ho]
     have:=zqk q (n/2) (by omega)
     omega
   . rw[zks (by omega)];exact wI _
theorem zuh :∀(k r:Nat),r+1<2^k->tr1 (2^k+r)=tr1 r
 | 0,r,h=>by simp at h
 | k+1,r,h=>by
   have e:2^(k+1)=2*2^k:=by rw[wB];omega
   by_cases ho:r%2=1
   . rw[zsf (show(2^(k+1)+r)%2=1 by omega),zsf ho,show(2^(k+1)+r)/2=2^k+r/2 by omega,zuh k (r/2) (by omega)]
   . rw[zks (show(2^(k+1)+r)%2=0 by omega),zks (by omega)]
theorem zoo :∀(k:Nat),tr1 (2^k-1)=k/\pcn (2^k-1)=k
 | 0=>by rw[zks (by simp)];exact⟨rfl,pcn_0⟩
 | k+1=>by
   have e:2^(k+1)=2*2^k:=by rw[wB];omega
   have hp:=wC k
   obtain⟨h1,h2⟩:=zoo k
   rw[zsf (by omega),pcn_two,show(2^(k+1)-1)/2=2^k-1 by omega,h1,h2]
   exact⟨rfl,by omega⟩
section
variable {D :Type} (node:D->D->D) (emp:D)
def gp (n:Nat):Nat:=2^n.log2
theorem qf0 {n:Nat}(h:n≠0):gp n<=n:=wG h
theorem z1n (n:Nat):0<gp n:=wC _
theorem qfz (n:Nat):n<2*gp n:=by
 have:=@wF n
 unfold gp
 rw[wB]at this
 omega
theorem zrt {n k:Nat}(h1:2^k<=n)(h2:n<2^(k+1)):gp n=2^k:=by
 unfold gp
 congr 1
 rw[wH (by have:=wC k;omega)]
 exact⟨h1,h2⟩
def pk (l:List D):List D :=
 if h:l.length=0 then []else rt node emp (l.take (gp l.length))::pk (l.drop (gp l.length))
termination_by l.length
decreasing_by
 have:=z1n l.length;rw[wN];omega
variable {node emp}
theorem znp :pk node emp ([]:List D)=[]:=by rw[pk,dif_pos (show([]:List D).length=0 from rfl)]
theorem pk_s {l:List D}(h:l.length≠0):pk node emp l=rt node emp (l.take (gp l.length))::pk node emp (l.drop (gp l.length)):=by rw[pk,dif_neg h]
theorem zpc {l:List D}{k:Nat}(h:l.length=2^k):pk node emp l=[rt node emp l]:=by
 have hp:=wC k
 have hg:gp l.length=l.length:=by rw[h];exact zrt (wD _) (by rw[wB];omega)
 rw[pk_s (by omega),hg,wO,List.drop_length,znp]
theorem z0c :∀(q:Nat) (l:List D),l.length<=q->(pk node emp l).length=pcn l.length
 | 0,l,h=>by
   obtain rfl:l=[]:=wK.1 (by omega)
   rw[znp];exact pcn_0.symm
 | q+1,l,h=>by
   by_cases h0:l.length=0
   . obtain rfl:l=[]:=wK.1 h0
     rw[znp];exact pcn_0.symm
   have hle:=qf0 h0
   have hlt:=qfz l.length
   have hp:=z1n l.length
   rw[pk_s h0,List.length_cons,z0c q _ (by rw[wN];omega),wN]
   have:=zux l.length.log2 (l.length-gp l.length) (by unfold gp at *;omega)
   rw[show 2^l.length.log2=gp l.length from rfl,wE hle]at this
   omega
variable (node)
def jn (z:D)(q:List D×D):List D×D:=(q.1.dropLast,node (q.1.getLastD z) q.2)
def jns (z:D):Nat->List D×D->List D×D
 | 0,q=>q
 | t+1,q=>jns z t (jn node z q)
variable {node}
theorem z03 (z:D):∀(t s:Nat) (q:List D×D),jns node z (t+s) q=jns node z s (jns node z t q)
 | 0,s,q=>by rw[Nat.zero_add];rfl
 | t+1,s,q=>by rw[show t+1+s=(t+s)+1 by omega,jns,jns,z03 z t s]
theorem zpo (z x:D):∀(t:Nat) (l:List D) (d:D),t<=l.length->jns node z t (x::l,d)=(x::(jns node z t (l,d)).1,(jns node z t (l,d)).2)
 | 0,l,d,h=>rfl
 | t+1,l,d,h=>by
   have hl:l≠[]:=by rintro rfl;simp at h
   have e:jn node z (x::l,d)=(x::(jn node z (l,d)).1,(jn node z (l,d)).2):=by
    unfold jn
    simp only
    rw[List.dropLast_cons_of_ne_nil hl]
    congr 2
    cases l with
    | nil=>exact absurd rfl hl
    | cons y l=>simp
   rw[jns,jns,e,zpo z x t _ _ (by unfold jn;rw[List.length_dropLast];show t<=l.length-1;omega)]
theorem qho (z:D):∀(q:Nat) (l:List D) (d:D),l.length<=q->(jns node z (tr1 l.length) (pk node emp l,d)).1++[(jns node z (tr1 l.length) (pk node emp l,d)).2]=pk node emp (l++[d])
 | 0,l,d,h=>by
   obtain rfl:l=[]:=wK.1 (by omega)
   rw[znp,zks rfl,zpc (k:=0) (by simp)]
   simp[jns,zqq]
 | q+1,l,d,h=>by
   by_cases h0:l.length=0
   . obtain rfl:l=[]:=wK.1 h0
     rw[znp,zks rfl,zpc (k:=0) (by simp)]
     simp[jns,zqq]
   have hle:=qf0 h0
   have hlt:=qfz l.length
   have hp:=z1n l.length
   have hd:(l.drop (gp l.length)).length=l.length-gp l.length:=wN
   have ih:=qho z q (l.drop (gp l.length)) d (by omega)
   have hpl:=z0c (node:=node) (emp:=emp) q (l.drop (gp l.length)) (by omega)
   have htl:=zqk _ (l.length-gp l.length) (wD _)
   have hla:(l++[d]).length=l.length+1:=by simp
   rw[hd]at ih hpl
   have htk:(l++[d]).take (gp l.length)=l.take (gp l.length):=List.take_append_of_le_length hle
   have hdr:(l++[d]).drop (gp l.length)=l.drop (gp l.length)++[d]:=List.drop_append_of_le_length hle
   by_cases hf:l.length+1=2*gp l.length
   ·
    have e1:l.length-gp l.length=2^l.length.log2-1:=by unfold gp at *;omega
    have e2:l.length=2^(l.length.log2+1)-1:=by rw[wB];unfold gp at *;omega
    have t1:=(zoo l.length.log2).1
    have t2:=(zoo (l.length.log2+1)).1
    rw[<-e1]at t1
    rw[<-e2]at t2
    rw[t1]at ih htl
    have hB:(l.drop (gp l.length)++[d]).length=2^l.length.log2:=by rw[List.length_append,hd];unfold gp at *;simp;omega
    rw[zpc hB]at ih
    have hA:(l++[d]).length=2^(l.length.log2+1):=by rw[hla,wB];unfold gp at *;omega
    have hsp:spl (l++[d]).length=gp l.length:=by
     rw[hA]
     exact znj (k:=l.length.log2) (by rw[wB];omega) (wD _)
    rw[zpc hA,zls (by rw[hA,wB];unfold gp at *;omega),hsp,htk,hdr,pk_s h0,t2,z03,zpo z _ _ _ _ (by omega)]
    generalize jns node z l.length.log2 (pk node emp (l.drop (gp l.length)),d)=w at *
    obtain⟨w1,w2⟩:=w
    simp only at ih
    have hw:w1=[]/\w2=rt node emp (l.drop (gp l.length)++[d]):=by
     cases w1 with
     | nil=>simpa using ih
     | cons a b=>simp at ih
    obtain⟨rfl,rfl⟩:=hw
    rfl
   . have hg:gp (l.length+1)=gp l.length:=zrt (k:=l.length.log2) (by unfold gp at *;omega) (by rw[wB];unfold gp at *;omega)
     have ht:tr1 l.length=tr1 (l.length-gp l.length):=by
      have:=zuh l.length.log2 (l.length-gp l.length) (by unfold gp at *;omega)
      rw[show 2^l.length.log2=gp l.length from rfl,wE hle]at this
      exact this
     rw[pk_s (l:=l++[d]) (by omega),hla,hg,htk,hdr,<-ih,pk_s h0,ht,zpo z _ _ _ _ (by omega)]
     rfl
end
end Go.Mk
namespace Go.Proofs.S44.M
open Go Go.Ev Go.Proofs Go.Mk
open Go.Proofs.S44.H (GlK GlR)
variable {gl :Gl} {n:Nat}
abbrev i64 (n:Int):AV:=.int .i64 n
abbrev sB :Sh:=.ar 16 .sc
abbrev Dg :=List UInt8
abbrev bAV (b:Dg):AV:=.agg (zac b)
theorem b16 {b:Dg}(h:b.length=16):(zac b).length=16:=by rw[zab];exact h
theorem b16t {b:Dg}(h:b.length=16):List.take 16 (zac b)=zac b:=List.take_of_length_le (by rw[b16 h];exact wD _)
theorem out16_eq :List.replicate 16 (AV.int .u8 0)=H.out16l:=rfl
def z16 :Dg:=List.replicate 16 0
theorem qdm :H.out16l=zac z16:=rfl
def dgL (l:List Dg):List AV:=l.map fun x=>.agg (zac x)
def dgA (l:List Dg)(i:Nat):Dg:=l.getD i []
theorem dgL_length (l:List Dg):(dgL l).length=l.length:=by simp[dgL]
theorem dgL_at {l:List Dg}{i:Nat}(h:i<l.length):(dgL l)[i]? =some (.agg (zac (dgA l i))):=by simp[dgL,dgA,h]
theorem dgL_nil :dgL []=[]:=rfl
theorem zec (l:List Dg)(d:Dg):dgL (l++[d])=dgL l++[.agg (zac d)]:=by simp[dgL]
theorem zca (l:List Dg)(k:Nat):List.take k (dgL l)=dgL (l.take k):=by simp[dgL,List.map_take]
theorem zcq (l:List Dg)(k:Nat):List.drop k (dgL l)=dgL (l.drop k):=by simp[dgL,List.map_drop]
theorem zed (l:List Dg):List.take l.length (dgL l)=dgL l:=by rw[<-dgL_length];exact wO
theorem zba :∀(l:List Dg),zd2 (dgL l)=true
 | []=>rfl
 | x::l=>by
   have:=zba l
   rw[dgL,wL,zd2,<-dgL,this,zdb,H.noImms_bytesAV];rfl
def All16 (l:List Dg):Prop:=∀x∈l,x.length=16
theorem All16.at {l:List Dg}(h:All16 l){i:Nat}(hi:i<l.length):(dgA l i).length=16:=by
 rw[dgA,List.getD_eq_getElem?_getD,List.getElem?_eq_getElem hi];exact h _ (List.getElem_mem hi)
theorem All16.take {l:List Dg}(h:All16 l)(k:Nat):All16 (l.take k):=fun x hx=>h x (List.mem_of_mem_take hx)
theorem All16.drop {l:List Dg}(h:All16 l)(k:Nat):All16 (l.drop k):=fun x hx=>h x (List.mem_of_mem_drop hx)
theorem All16.app {l m:List Dg}(h:All16 l)(h':All16 m):All16 (l++m):=fun x hx=>by
 rcases List.mem_append.1 hx with hx|hx
 . exact h x hx
 . exact h' x hx
theorem All16.one {d:Dg}(h:d.length=16):All16 [d]:=fun x hx=>by simp at hx;subst hx;exact h
theorem All16.nil :All16 []:=fun x hx=>by simp at hx
theorem eqB_all :∀(a b:List UInt8),a.length=b.length->zp1 ((zac a).zip (zac b)) (fun p=>eqAV .it p.1 p.2)=some (decide (a=b))
 | [],[],_=>rfl
 | x::a,y::b,h=>by
   have ih:=eqB_all a b (by simpa using h)
   simp only[zac,wL,List.zip_cons_cons,zp1,eqAV,if_pos,Option.bind_some]
   simp only[zac]at ih
   rw[ih]
   by_cases e:x=y
   . subst e;simp
   . have:((x.toNat:Int)==(y.toNat:Int))=false:=by
      rw[beq_eq_false_iff_ne];intro h2
      exact e (UInt8.toNat_inj.1 (by omega))
     rw[this];simp[e]
 | [],_::_,h=>by simp at h
 | _::_,[],h=>by simp at h
theorem eqB {a b:Dg}(ha:a.length=16)(hb:b.length=16):eqAV (.ar 16 .it) (.agg (zac a)) (.agg (zac b))=some (decide (a=b)):=by
 have:=eqB_all a b (by omega)
 rw[eqAV,if_pos ⟨by rw[zab];exact ha,by rw[zab];exact hb⟩]
 exact this
def lf (s:List UInt8):Dg:=H.dig (H.inp 30 [s])
def nd (a b:Dg):Dg:=H.dig (H.inp 31 [a,b])
def em :Dg:=H.dig (H.inp 32 [])
theorem zd3 (s:List UInt8):(lf s).length=16:=H.dig_len _
theorem zfn (a b:Dg):(nd a b).length=16:=H.dig_len _
theorem zmw :em.length=16:=H.dig_len _
section
variable [Nonempty (GlK gl)]
theorem leaf_at (h:7<=n)(s:List UInt8)(hs:s.length<=1048576):call gl tab n 85 [.str s] []=some (bAV (lf s),[],[]):=by
 obtain⟨d,rfl⟩:=wA h
 have c:=@H.of_at gl _ (d+5) (by omega) 30 false [s] ⟨by simp,fun x hx=>by simp at hx;subst hx;exact hs⟩
 simp only[H.strsAV,wL,wM]at c
 rw[show H.dig (H.inp 30 [s])=lf s from rfl]at c
 have hl:=zd3 s
 have hb:=H.bytes_all (lf s)
 generalize lf s=q at *
 rw[zad (fd:=fd85) rfl]
 simp(disch:=apply zq;omega) only[go_sem,simprocAttr,↓Nat.reduceEqDiff,xx,fd85,m85,↓out16_eq,H.out16_len,H.out16_all,H.out16_pl,c,hl,hb,H.noImms_bytesAV]
theorem zl9 (h:7<=n){a b:Dg}(ha:a.length=16)(hb:b.length=16):call gl tab n 105 [bAV a,bAV b] []=some (bAV (nd a b),[],[]):=by
 obtain⟨d,rfl⟩:=wA h
 have c:=@H.of_at gl _ (d+5) (by omega) 31 false [a,b] ⟨by simp,fun x hx=>by simp at hx;rcases hx with rfl|rfl<;>omega⟩
 simp only[H.strsAV,wL,wM]at c
 rw[show H.dig (H.inp 31 [a,b])=nd a b from rfl]at c
 have hl:=zfn a b
 have hq:=H.bytes_all (nd a b)
 generalize nd a b=q at *
 have a1:=b16t ha
 have a2:=H.bytes_all a
 have b1:=b16t hb
 have b2:=H.bytes_all b
 rw[zad (fd:=z6x) rfl]
 simp(implicitDefEqProofs:=false) (disch:=apply zq;omega) only[go_sem,simprocAttr,↓Nat.reduceEqDiff,xx,z6x,m105,↓out16_eq,H.out16_len,H.out16_all,H.out16_pl,c,hl,hq,ha,hb,a1,a2,b1,b2,H.noImms_bytesAV]
theorem zvp (h:7<=n):call gl tab n 107 [] []=some (bAV em,[],[]):=by
 obtain⟨d,rfl⟩:=wA h
 have c:=fun f=>@H.of_at gl _ (d+5) (by omega) 32 f [] ⟨by simp,fun x hx=>by simp at hx⟩
 simp only[H.strsAV,wM]at c
 rw[show H.dig (H.inp 32 [])=em from rfl]at c
 have hl:=zmw
 have hb:=H.bytes_all em
 generalize em=q at *
 rw[zad (fd:=z6w) rfl]
 simp(disch:=apply zq;omega) only[go_sem,simprocAttr,↓Nat.reduceEqDiff,xx,z6w,m107,↓out16_eq,H.out16_len,H.out16_all,H.out16_pl,c,hl,hb,H.noImms_bytesAV]
end
section
variable [Nonempty (GlR gl)]
theorem rleaf_at (h:7<=n)(s:List UInt8)(hs:s.length<=1048576):call gl tab n 79 [.str s] []=some (bAV (lf s),[],[]):=by
 obtain⟨d,rfl⟩:=wA h
 have c:=@H.rof_at gl _ (d+4) (by omega) 30 false [s] ⟨by simp,fun x hx=>by simp at hx;subst hx;exact hs⟩
 simp only[H.strsAV,wL,wM]at c
 rw[show H.dig (H.inp 30 [s])=lf s from rfl]at c
 have hl:=zd3 s
 have hb:=H.bytes_all (lf s)
 generalize lf s=q at *
 rw[zad (fd:=fd79) rfl]
 simp(disch:=apply zq;omega) only[go_sem,simprocAttr,↓Nat.reduceEqDiff,xx,fd79,m79,↓out16_eq,H.out16_len,H.out16_all,H.out16_pl,c,hl,hb,H.noImms_bytesAV]
theorem zuq (h:7<=n){a b:Dg}(ha:a.length=16)(hb:b.length=16):call gl tab n 101 [bAV a,bAV b] []=some (bAV (nd a b),[],[]):=by
 obtain⟨d,rfl⟩:=wA h
 have c:=@H.rof_at gl _ (d+4) (by omega) 31 false [a,b] ⟨by simp,fun x hx=>by simp at hx;rcases hx with rfl|rfl<;>omega⟩
 simp only[H.strsAV,wL,wM]at c
 rw[show H.dig (H.inp 31 [a,b])=nd a b from rfl]at c
 have hl:=zfn a b
 have hq:=H.bytes_all (nd a b)
 generalize nd a b=q at *
 have a1:=b16t ha
 have a2:=H.bytes_all a
 have b1:=b16t hb
 have b2:=H.bytes_all b
 rw[zad (fd:=z60) rfl]
 simp(implicitDefEqProofs:=false) (disch:=apply zq;omega) only[go_sem,simprocAttr,↓Nat.reduceEqDiff,xx,z60,m101,↓out16_eq,H.out16_len,H.out16_all,H.out16_pl,c,hl,hq,ha,hb,a1,a2,b1,b2,H.noImms_bytesAV]
theorem zqw (h:7<=n):call gl tab n 99 [] []=some (bAV em,[],[]):=by
 obtain⟨d,rfl⟩:=wA h
 have c:=fun f=>@H.rof_at gl _ (d+4) (by omega) 32 f [] ⟨by simp,fun x hx=>by simp at hx⟩
 simp only[H.strsAV,wM]at c
 rw[show H.dig (H.inp 32 [])=em from rfl]at c
 have hl:=zmw
 have hb:=H.bytes_all em
 generalize em=q at *
 rw[zad (fd:=fd99) rfl]
 simp(disch:=apply zq;omega) only[go_sem,simprocAttr,↓Nat.reduceEqDiff,xx,fd99,m99,↓out16_eq,H.out16_len,H.out16_all,H.out16_pl,c,hl,hb,H.noImms_bytesAV]
end
end Go.Proofs.S44.M
namespace Go.Proofs.S44.M
open Go Go.Ev Go.Proofs Go.Mk
variable {gl :Gl} {n:Nat}
def ln (x:Nat):Nat:=if x=0 then 0 else x.log2+1
theorem zma {x k:Nat}(h:2^k<=x):ln x=k+ln (x/2^k):=by
 have hp:=wC k
 have h1:x/2^k≠0:=by have:=Nat.div_pos h hp;omega
 unfold ln
 rw[if_neg (by omega),if_neg h1]
 have e:x.log2=(x/2^k).log2+k:=by
  rw[wH (by omega)]
  have a1:=wG h1
  have a2:=@wF (x/2^k)
  constructor
  . rw[wJ]
    exact(Nat.le_div_iff_mul_le hp).1 a1
  . rw[show(x/2^k).log2+k+1=(x/2^k).log2+1+k by omega,wJ]
    exact(Nat.div_lt_iff_lt_mul hp).1 a2
 omega
def lenT :List UInt8:=[0,1,2,2,3,3,3,3,4,4,4,4,4,4,4,4,5,5,5,5,5,5,5,5,5,5,5,5,5,5,5,5,6,6,6,6,6,6,6,6,6,6,6,6,6,6,6,6,6,6,6,6,6,6,6,6,6,6,6,6,6,6,6,6,7,7,7,7,7,7,7,7,7,7,7,7,7,7,7,7,7,7,7,7,7,7,7,7,7,7,7,7,7,7,7,7,7,7,7,7,7,7,7,7,7,7,7,7,7,7,7,7,7,7,7,7,7,7,7,7,7,7,7,7,7,7,7,7,8,8,8,8,8,8,8,8,8,8,8,8,8,8,8,8,8,8,8,8,8,8,8,8,8,8,8,8,8,8,8,8,8,8,8,8,8,8,8,8,8,8,8,8,8,8,8,8,8,8,8,8,8,8,8,8,8,8,8,8,8,8,8,8,8,8,8,8,8,8,8,8,8,8,8,8,8,8,8,8,8,8,8,8,8,8,8,8,8,8,8,8,8,8,8,8,8,8,8,8,8,8,8,8,8,8,8,8,8,8,8,8,8,8,8,8,8,8,8,8,8,8,8,8,8,8,8,8]
theorem ze4 :([0,1,2,2,3,3,3,3,4,4,4,4,4,4,4,4,5,5,5,5,5,5,5,5,5,5,5,5,5,5,5,5,6,6,6,6,6,6,6,6,6,6,6,6,6,6,6,6,6,6,6,6,6,6,6,6,6,6,6,6,6,6,6,6,7,7,7,7,7,7,7,7,7,7,7,7,7,7,7,7,7,7,7,7,7,7,7,7,7,7,7,7,7,7,7,7,7,7,7,7,7,7,7,7,7,7,7,7,7,7,7,7,7,7,7,7,7,7,7,7,7,7,7,7,7,7,7,7,8,8,8,8,8,8,8,8,8,8,8,8,8,8,8,8,8,8,8,8,8,8,8,8,8,8,8,8,8,8,8,8,8,8,8,8,8,8,8,8,8,8,8,8,8,8,8,8,8,8,8,8,8,8,8,8,8,8,8,8,8,8,8,8,8,8,8,8,8,8,8,8,8,8,8,8,8,8,8,8,8,8,8,8,8,8,8,8,8,8,8,8,8,8,8,8,8,8,8,8,8,8,8,8,8,8,8,8,8,8,8,8,8,8,8,8,8,8,8,8,8,8,8,8,8,8,8,8]:List UInt8)=lenT:=rfl
theorem qbh :∀j:Fin 256,lenT[j.val]? =some (UInt8.ofNat (ln j.val))/\ln j.val<=8:=by decide +kernel
set_option maxRecDepth 20000 in
set_option maxHeartbeats 1000000 in
theorem z49 (h:1<=n)(x:BitVec 64):call gl tab n 166 [.int .u64 (x.toNat:Int)] []=some (i64 (ln x.toNat),[],[]):=by
 obtain⟨d,rfl⟩:=wA h
 have hx:=x.isLt
 have last:∀(y:BitVec 64),y.toNat<256->lenT[((y.setWidth 8).toNat)]? =some (UInt8.ofNat (ln y.toNat))/\(((UInt8.ofNat (ln y.toNat)).toNat:Nat):Int)=((ln y.toNat:Nat):Int)/\ln y.toNat<=8:=fun y hy=>by
  obtain⟨h1,h2⟩:=qbh ⟨y.toNat,hy⟩
  have e:(y.setWidth 8).toNat=y.toNat:=by rw[BitVec.toNat_setWidth];omega
  rw[e]
  refine⟨h1,?_,h2⟩
  rw[UInt8.toNat_ofNat']
  simp only at h2
  rw[Nat.mod_eq_of_lt (by omega)]
 have sh:∀(y:BitVec 64) (k:Nat),(y>>>k).toNat=y.toNat/2^k:=fun y k=>by rw[BitVec.toNat_ushiftRight,Nat.shiftRight_eq_div_pow]
 have cc:∀(a b c:Nat),a+b=c->x>>>a>>>b=x>>>c:=fun a b c e=>by rw[<-e,BitVec.shiftRight_add]
 have sh0:(x>>>(0:Nat)).toNat=x.toNat:=by simp
 rw[zad (fd:=zmv) rfl]
 by_cases h1:4294967296<=x.toNat
 . have s1:(x>>>(32:Nat)).toNat=x.toNat/2^32:=by rw[sh]
   have l1:=zma (x:=x.toNat) (k:=32) h1
   rw[<-s1]at l1
   by_cases h2:65536<=(x>>>(32:Nat)).toNat
   . have s2:(x>>>(48:Nat)).toNat=(x>>>(32:Nat)).toNat/2^16:=by rw[<-cc 32 16 48 rfl,sh]
     have l2:=zma (x:=(x>>>(32:Nat)).toNat) (k:=16) h2
     rw[<-s2]at l2
     by_cases h3:256<=(x>>>(48:Nat)).toNat
     . have s3:(x>>>(56:Nat)).toNat=(x>>>(48:Nat)).toNat/2^8:=by rw[<-cc 48 8 56 rfl,sh]
       have l3:=zma (x:=(x>>>(48:Nat)).toNat) (k:=8) h3
       rw[<-s3]at l3
       obtain⟨t1,t2,t3⟩:=last (x>>>(56:Nat)) (by omega)
       rw[l1,l2,l3]
       simp(disch:=apply zq;omega) only[go_sem,simprocAttr,↓Nat.reduceEqDiff,xx,zmv,m166,↓ze4,t1,t2,wP]
       refine congrArg (fun z:Int=>some (AV.int .i64 z,([]:List (Nat×OB)),[])) ?_
       omega
     . skip
       obtain⟨t1,t2,t3⟩:=last (x>>>(48:Nat)) (by omega)
       rw[l1,l2]
       simp(disch:=apply zq;omega) only[go_sem,simprocAttr,↓Nat.reduceEqDiff,xx,zmv,m166,↓ze4,t1,t2,wP]
       refine congrArg (fun z:Int=>some (AV.int .i64 z,([]:List (Nat×OB)),[])) ?_
       omega
   . skip
     by_cases h3:256<=(x>>>(32:Nat)).toNat
     . have s2:(x>>>(40:Nat)).toNat=(x>>>(32:Nat)).toNat/2^8:=by rw[<-cc 32 8 40 rfl,sh]
       have l2:=zma (x:=(x>>>(32:Nat)).toNat) (k:=8) h3
       rw[<-s2]at l2
       obtain⟨t1,t2,t3⟩:=last (x>>>(40:Nat)) (by omega)
       rw[l1,l2]
       simp(disch:=apply zq;omega) only[go_sem,simprocAttr,↓Nat.reduceEqDiff,xx,zmv,m166,↓ze4,t1,t2,wP]
       refine congrArg (fun z:Int=>some (AV.int .i64 z,([]:List (Nat×OB)),[])) ?_
       omega
     . skip
       obtain⟨t1,t2,t3⟩:=last (x>>>(32:Nat)) (by omega)
       rw[l1]
       simp(disch:=apply zq;omega) only[go_sem,simprocAttr,↓Nat.reduceEqDiff,xx,zmv,m166,↓ze4,t1,t2,wP]
 . skip
   by_cases h2:65536<=x.toNat
   . have s1:(x>>>(16:Nat)).toNat=x.toNat/2^16:=by rw[sh]
     have l1:=zma (x:=x.toNat) (k:=16) h2
     rw[<-s1]at l1
     by_cases h3:256<=(x>>>(16:Nat)).toNat
     . have s2:(x>>>(24:Nat)).toNat=(x>>>(16:Nat)).toNat/2^8:=by rw[<-cc 16 8 24 rfl,sh]
       have l2:=zma (x:=(x>>>(16:Nat)).toNat) (k:=8) h3
       rw[<-s2]at l2
       obtain⟨t1,t2,t3⟩:=last (x>>>(24:Nat)) (by omega)
       rw[l1,l2]
       simp(disch:=apply zq;omega) only[go_sem,simprocAttr,↓Nat.reduceEqDiff,xx,zmv,m166,↓ze4,t1,t2,wP]
       refine congrArg (fun z:Int=>some (AV.int .i64 z,([]:List (Nat×OB)),[])) ?_
       omega
     . skip
       obtain⟨t1,t2,t3⟩:=last (x>>>(16:Nat)) (by omega)
       rw[l1]
       simp(disch:=apply zq;omega) only[go_sem,simprocAttr,↓Nat.reduceEqDiff,xx,zmv,m166,↓ze4,t1,t2,wP]
   . skip
     by_cases h3:256<=x.toNat
     . have s1:(x>>>(8:Nat)).toNat=x.toNat/2^8:=by rw[sh]
       have l1:=zma (x:=x.toNat) (k:=8) h3
       rw[<-s1]at l1
       obtain⟨t1,t2,t3⟩:=last (x>>>(8:Nat)) (by omega)
       rw[l1]
       simp(disch:=apply zq;omega) only[go_sem,simprocAttr,↓Nat.reduceEqDiff,xx,zmv,m166,↓ze4,t1,t2,wP]
     . skip
       obtain⟨t1,t2,t3⟩:=last x (by omega)
       simp(disch:=apply zq;omega) only[go_sem,simprocAttr,↓Nat.reduceEqDiff,xx,zmv,m166,↓ze4,t1,t2,wP]
theorem qfb (h:2<=n)(x:BitVec 64):call gl tab n 148 [.int .u64 (x.toNat:Int)] []=some (i64 (ln x.toNat),[],[]):=by
 obtain⟨d,rfl⟩:=wA h
 have c:=@z49 gl (d+1) (by omega) x
 rw[zad (fd:=z6e) rfl]
 simp(disch:=apply zq;omega) only[go_sem,simprocAttr,↓Nat.reduceEqDiff,xx,z6e,m148,c]
theorem zk0 (h:3<=n){m:Nat}(h2:2<=m)(hm:m<=4611686018427387904):call gl tab n 108 [i64 m] []=some (i64 (spl m),[],[]):=by
 obtain⟨d,rfl⟩:=wA h
 have e:(BitVec.ofInt 64 ((m:Int)-1)).toNat=m-1:=by
  rw[show((m:Int)-1)=((m-1:Nat):Int) by omega,BitVec.ofInt_natCast,BitVec.toNat_ofNat];omega
 have c:=@qfb gl (d+2) (by omega) (BitVec.ofInt 64 ((m:Int)-1))
 have hl:ln (BitVec.ofInt 64 ((m:Int)-1)).toNat=(m-1).log2+1:=by rw[e,ln,if_neg (by omega)]
 rw[hl]at c
 have hlt:(m-1).log2<62:=(Nat.log2_lt (by omega)).2 (by omega)
 have hs:=zcu h2
 have hsl:zbz .shl .i64 1 ((((m-1).log2:Nat):Int)+1-1)=some (i64 (spl m)):=by
  unfold zbz
  rw[if_neg (by omega),show((((m-1).log2:Nat):Int)+1-1).toNat=(m-1).log2 by omega,show min (m-1).log2 IntKind.i64.bits=(m-1).log2 from Nat.min_eq_left (by show _<=64;omega)]
  show some (AV.int .i64 (IntKind.i64.wrap (1*2^(m-1).log2)))=_
  have e2:(1:Int)*2^(m-1).log2=((spl m:Nat):Int):=by unfold spl;simp
  rw[e2,zav (by omega) (by omega)]
 rw[zad (fd:=z6v) rfl]
 simp(disch:=apply zq;omega) only[go_sem,simprocAttr,↓Nat.reduceEqDiff,xx,z6v,m108,c,hsl]
end Go.Proofs.S44.M
