/-
  Hash trees, in plain terms: several elements, peaks, collisions. No condition.
-/
import Derived.Test.YtcddalfeicoedaaGreatDoorW44G11x3
import Derived.Test.YtcddalfeicoedaaGreatDoorW44G5x3
import Derived.Test.YtcddalfeicoedaaGreatDoorEvY
set_option linter.all false
open Nat renaming exists_eq_add_of_le'->wA,pow_succ->wB,two_pow_pos->wC,le_refl->wD,add_sub_cancel'->wE,zero_le->wF
open List renaming length_eq_zero_iff->wG,length_drop->wH,map_cons->wI,map_nil->wJ,take_length->wK,drop_length->wL
namespace Go.Mk
variable {D :Type} {node:D->D->D} {emp:D}
end Go.Mk
namespace Go.Mk
def pcn (n:Nat):Nat:=if h:n=0 then 0 else n%2+pcn (n/2)
def tr1 (n:Nat):Nat:=if h:n%2=1 then tr1 (n/2)+1 else 0
termination_by n
decreasing_by omega
theorem pcn_0 :pcn 0=0:=by rw[pcn,dif_pos rfl]
theorem qh7 {n:Nat}(h:n≠0):pcn n=n%2+pcn (n/2):=by rw[pcn,dif_neg h]
theorem pcn_two (n:Nat):pcn n=n%2+pcn (n/2):=by
 by_cases h:n=0
 . subst h;simp[pcn_0]
 . exact qh7 h
theorem zse {n:Nat}(h:n%2=1):tr1 n=tr1 (n/2)+1:=by rw[tr1,dif_pos h]
theorem zkl {n:Nat}(h:n%2=0):tr1 n=0:=by rw[tr1,dif_neg (by omega)]
theorem zuv :∀(k r:Nat),r<2^k->pcn (2^k+r)=1+pcn r
 | 0,r,h=>by
   obtain rfl:r=0:=by simp at h;omega
   rw[pcn_two,pcn_0]
 | k+1,r,h=>by
   have e:2^(k+1)=2*2^k:=by rw[wB];omega
   have ih:=zuv k (r/2) (by omega)
   rw[pcn_two (2^(k+1)+r),pcn_two r,show(2^(k+1)+r)%2=r%2 by omega,show(2^(k+1)+r)/2=2^k+r/2 by omega,ih]
   omega
theorem zqj :∀(q n:Nat),n<=q->tr1 n<=pcn n
 | 0,n,h=>by
   obtain rfl:n=0:=by omega
   rw[zkl rfl];exact wF _
 | q+1,n,h=>by
   by_cases ho:n%2=1
   . rw[zse ho,pcn_two,ho]
     have:=zqj q (n/2) (by omega)
     omega
   . rw[zkl (by omega)];exact wF _
theorem zuh :∀(k r:Nat),r+1<2^k->tr1 (2^k+r)=tr1 r
 | 0,r,h=>by simp at h
 | k+1,r,h=>by
   have e:2^(k+1)=2*2^k:=by rw[wB];omega
   by_cases ho:r%2=1
   . rw[zse (show(2^(k+1)+r)%2=1 by omega),zse ho,show(2^(k+1)+r)/2=2^k+r/2 by omega,zuh k (r/2) (by omega)]
   . rw[zkl (show(2^(k+1)+r)%2=0 by omega),zkl (by omega)]
theorem zoh :∀(k:Nat),tr1 (2^k-1)=k/\pcn (2^k-1)=k
 | 0=>by rw[zkl (by simp)];exact⟨rfl,pcn_0⟩
 | k+1=>by
   have e:2^(k+1)=2*2^k:=by rw[wB];omega
   have hp:=wC k
   obtain⟨h1,h2⟩:=zoh k
   rw[zse (by omega),pcn_two,show(2^(k+1)-1)/2=2^k-1 by omega,h1,h2]
   exact⟨rfl,by omega⟩
section
variable {D :Type} (node:D->D->D) (emp:D)
def gp (n:Nat):Nat:=2^n.log2
theorem qbu {n:Nat}(h:n≠0):gp n<=n:=Nat.log2_self_le h
theorem zvf (n:Nat):0<gp n:=wC _
theorem qbt (n:Nat):n<2*gp n:=by
 have:=@Nat.lt_log2_self n
 unfold gp
 rw[wB]at this
 omega
theorem zrt {n k:Nat}(h1:2^k<=n)(h2:n<2^(k+1)):gp n=2^k:=by
 unfold gp
 congr 1
 rw[Nat.log2_eq_iff (by have:=wC k;omega)]
 exact⟨h1,h2⟩
def pk (l:List D):List D :=
 if h:l.length=0 then []else rt node emp (l.take (gp l.length))::pk (l.drop (gp l.length))
termination_by l.length
decreasing_by
 have:=zvf l.length;rw[wH];omega
def tpF :List D->D
 | []=>emp
 | [d]=>d
 | d::e::l=>node d (tpF (e::l))
variable {node emp}
theorem zil :pk node emp ([]:List D)=[]:=by rw[pk,dif_pos (show([]:List D).length=0 from rfl)]
theorem pk_s {l:List D}(h:l.length≠0):pk node emp l=rt node emp (l.take (gp l.length))::pk node emp (l.drop (gp l.length)):=by rw[pk,dif_neg h]
theorem qh6 {l:List D}(h:l.length≠0):∃d r,pk node emp l=d::r:=⟨_,_,pk_s h⟩
theorem zo6 {l:List D}{k:Nat}(h:l.length=2^k):pk node emp l=[rt node emp l]:=by
 have hp:=wC k
 have hg:gp l.length=l.length:=by rw[h];exact zrt (wD _) (by rw[wB];omega)
 rw[pk_s (by omega),hg,wK,wL,zil]
theorem zz4 :∀(q:Nat) (l:List D),l.length<=q->(pk node emp l).length=pcn l.length
 | 0,l,h=>by
   obtain rfl:l=[]:=wG.1 (by omega)
   rw[zil];exact pcn_0.symm
 | q+1,l,h=>by
   by_cases h0:l.length=0
   . obtain rfl:l=[]:=wG.1 h0
     rw[zil];exact pcn_0.symm
   have hle:=qbu h0
   have hlt:=qbt l.length
   have hp:=zvf l.length
   rw[pk_s h0,List.length_cons,zz4 q _ (by rw[wH];omega),wH]
   have:=zuv l.length.log2 (l.length-gp l.length) (by unfold gp at *;omega)
   rw[show 2^l.length.log2=gp l.length from rfl,wE hle]at this
   omega
theorem qdi :∀(q:Nat) (l:List D),l.length<=q->tpF node emp (pk node emp l)=rt node emp l
 | 0,l,h=>by
   obtain rfl:l=[]:=wG.1 (by omega)
   rw[zil,zlm];rfl
 | q+1,l,h=>by
   by_cases h0:l.length=0
   . obtain rfl:l=[]:=wG.1 h0
     rw[zil,zlm];rfl
   have hle:=qbu h0
   have hlt:=qbt l.length
   have hp:=zvf l.length
   by_cases he:gp l.length=l.length
   . rw[pk_s h0,he,wK,wL,zil];rfl
   . have hs:spl l.length=gp l.length:=zna (k:=l.length.log2) (by unfold gp at *;omega) (by rw[wB];unfold gp at *;omega)
     have hd:(l.drop (gp l.length)).length≠0:=by rw[wH];omega
     have ih:=qdi q (l.drop (gp l.length)) (by rw[wH];omega)
     have er:rt node emp l=node (rt node emp (l.take (gp l.length))) (rt node emp (l.drop (gp l.length))):=by rw[zqq (l:=l) (by omega),hs]
     rw[pk_s h0,er,<-ih]
     obtain⟨d,r,e⟩:=qh6 (node:=node) (emp:=emp) hd
     rw[e];rfl
variable (node)
def jn (z:D)(q:List D×D):List D×D:=(q.1.dropLast,node (q.1.getLastD z) q.2)
def jns (z:D):Nat->List D×D->List D×D
 | 0,q=>q
 | t+1,q=>jns z t (jn node z q)
variable {node}
theorem z0v (z:D):∀(t s:Nat) (q:List D×D),jns node z (t+s) q=jns node z s (jns node z t q)
 | 0,s,q=>by rw[Nat.zero_add];rfl
 | t+1,s,q=>by rw[show t+1+s=(t+s)+1 by omega,jns,jns,z0v z t s]
theorem zpk (z x:D):∀(t:Nat) (l:List D) (d:D),t<=l.length->jns node z t (x::l,d)=(x::(jns node z t (l,d)).1,(jns node z t (l,d)).2)
 | 0,l,d,h=>rfl
 | t+1,l,d,h=>by
   have hl:l≠[]:=by rintro rfl;simp at h
   have e:jn node z (x::l,d)=(x::(jn node z (l,d)).1,(jn node z (l,d)).2):=by
    unfold jn
    simp only
    rw[List.dropLast_cons_of_ne_nil hl]
    congr 2
    cases l with
    | nil=>exact absurd rfl hl
    | cons y l=>simp
   rw[jns,jns,e,zpk z x t _ _ (by unfold jn;rw[List.length_dropLast];show t<=l.length-1;omega)]
theorem qha (z:D):∀(q:Nat) (l:List D) (d:D),l.length<=q->(jns node z (tr1 l.length) (pk node emp l,d)).1++[(jns node z (tr1 l.length) (pk node emp l,d)).2]=pk node emp (l++[d])
 | 0,l,d,h=>by
   obtain rfl:l=[]:=wG.1 (by omega)
   rw[zil,zkl rfl,zo6 (k:=0) (by simp)]
   simp[jns,zqr]
 | q+1,l,d,h=>by
   by_cases h0:l.length=0
   . obtain rfl:l=[]:=wG.1 h0
     rw[zil,zkl rfl,zo6 (k:=0) (by simp)]
     simp[jns,zqr]
   have hle:=qbu h0
   have hlt:=qbt l.length
   have hp:=zvf l.length
   have hd:(l.drop (gp l.length)).length=l.length-gp l.length:=wH
   have ih:=qha z q (l.drop (gp l.length)) d (by omega)
   have hpl:=zz4 (node:=node) (emp:=emp) q (l.drop (gp l.length)) (by omega)
   have htl:=zqj _ (l.length-gp l.length) (wD _)
   have hla:(l++[d]).length=l.length+1:=by simp
   rw[hd]at ih hpl
   have htk:(l++[d]).take (gp l.length)=l.take (gp l.length):=List.take_append_of_le_length hle
   have hdr:(l++[d]).drop (gp l.length)=l.drop (gp l.length)++[d]:=List.drop_append_of_le_length hle
   by_cases hf:l.length+1=2*gp l.length
   ·
    have e1:l.length-gp l.length=2^l.length.log2-1:=by unfold gp at *;omega
    have e2:l.length=2^(l.length.log2+1)-1:=by rw[wB];unfold gp at *;omega
    have t1:=(zoh l.length.log2).1
    have t2:=(zoh (l.length.log2+1)).1
    rw[<-e1]at t1
    rw[<-e2]at t2
    rw[t1]at ih htl
    have hB:(l.drop (gp l.length)++[d]).length=2^l.length.log2:=by rw[List.length_append,hd];unfold gp at *;simp;omega
    rw[zo6 hB]at ih
    have hA:(l++[d]).length=2^(l.length.log2+1):=by rw[hla,wB];unfold gp at *;omega
    have hsp:spl (l++[d]).length=gp l.length:=by
     rw[hA]
     exact zna (k:=l.length.log2) (by rw[wB];omega) (wD _)
    rw[zo6 hA,zqq (by rw[hA,wB];unfold gp at *;omega),hsp,htk,hdr,pk_s h0,t2,z0v,zpk z _ _ _ _ (by omega)]
    generalize jns node z l.length.log2 (pk node emp (l.drop (gp l.length)),d)=w at *
    obtain⟨w1,w2⟩:=w
    simp only at ih
    have hw:w1=[]/\w2=rt node emp (l.drop (gp l.length)++[d]):=by
     cases w1 with
     | nil=>simpa using ih
     | cons a b=>simp at ih
    obtain⟨rfl,rfl⟩:=hw
    rfl
   . have hg:gp (l.length+1)=gp l.length:=zrt (k:=l.length.log2) (by unfold gp at *;omega) (by rw[wB];unfold gp at *;omega)
     have ht:tr1 l.length=tr1 (l.length-gp l.length):=by
      have:=zuh l.length.log2 (l.length-gp l.length) (by unfold gp at *;omega)
      rw[show 2^l.length.log2=gp l.length from rfl,wE hle]at this
      exact this
     rw[pk_s (l:=l++[d]) (by omega),hla,hg,htk,hdr,<-ih,pk_s h0,ht,zpk z _ _ _ _ (by omega)]
     rfl
end
end Go.Mk
namespace Go.Proofs.S44.M
open Go Go.Ev Go.Proofs Go.Mk
open Go.Proofs.S44.H (GlK GlR)
variable {gl :Gl} {n:Nat}
abbrev i64 (n:Int):AV:=.int .i64 n
abbrev sB :Sh:=.ar 16 .sc
abbrev Dg :=List UInt8
abbrev bAV (b:Dg):AV:=.agg (zac b)
theorem b16 {b:Dg}(h:b.length=16):(zac b).length=16:=by rw[zab];exact h
theorem b16t {b:Dg}(h:b.length=16):List.take 16 (zac b)=zac b:=List.take_of_length_le (by rw[b16 h];exact wD _)
theorem out16_eq :List.replicate 16 (AV.int .u8 0)=H.out16l:=rfl
def z16 :Dg:=List.replicate 16 0
theorem qde :H.out16l=zac z16:=rfl
def dgL (l:List Dg):List AV:=l.map fun x=>.agg (zac x)
def dgA (l:List Dg)(i:Nat):Dg:=l.getD i []
theorem dgL_length (l:List Dg):(dgL l).length=l.length:=by simp[dgL]
theorem dgL_at {l:List Dg}{i:Nat}(h:i<l.length):(dgL l)[i]? =some (.agg (zac (dgA l i))):=by simp[dgL,dgA,h]
theorem zea :dgL []=[]:=rfl
theorem zp1 (l:List Dg)(d:Dg):dgL (l++[d])=dgL l++[.agg (zac d)]:=by simp[dgL]
theorem zdw (l:List Dg)(k:Nat):List.take k (dgL l)=dgL (l.take k):=by simp[dgL,List.map_take]
theorem zgc (l:List Dg)(k:Nat):List.drop k (dgL l)=dgL (l.drop k):=by simp[dgL,List.map_drop]
theorem zh3 (l:List Dg):List.take l.length (dgL l)=dgL l:=by rw[<-dgL_length];exact wK
theorem dgL_noImms :∀(l:List Dg),zd0 (dgL l)=true
 | []=>rfl
 | x::l=>by
   have:=dgL_noImms l
   rw[dgL,wI,zd0,<-dgL,this,zc9,H.noImms_bytesAV];rfl
def All16 (l:List Dg):Prop:=∀x∈l,x.length=16
theorem All16.at {l:List Dg}(h:All16 l){i:Nat}(hi:i<l.length):(dgA l i).length=16:=by
 rw[dgA,List.getD_eq_getElem?_getD,List.getElem?_eq_getElem hi];exact h _ (List.getElem_mem hi)
theorem All16.take {l:List Dg}(h:All16 l)(k:Nat):All16 (l.take k):=fun x hx=>h x (List.mem_of_mem_take hx)
theorem All16.drop {l:List Dg}(h:All16 l)(k:Nat):All16 (l.drop k):=fun x hx=>h x (List.mem_of_mem_drop hx)
theorem All16.app {l m:List Dg}(h:All16 l)(h':All16 m):All16 (l++m):=fun x hx=>by
 rcases List.mem_append.1 hx with hx|hx
 . exact h x hx
 . exact h' x hx
theorem All16.one {d:Dg}(h:d.length=16):All16 [d]:=fun x hx=>by simp at hx;subst hx;exact h
theorem All16.nil :All16 []:=fun x hx=>by simp at hx
theorem eqB_all :∀(a b:List UInt8),a.length=b.length->zpy ((zac a).zip (zac b)) (fun p=>eqAV .it p.1 p.2)=some (decide (a=b))
 | [],[],_=>rfl
 | x::a,y::b,h=>by
   have ih:=eqB_all a b (by simpa using h)
   simp only[zac,wI,List.zip_cons_cons,zpy,eqAV,if_pos,Option.bind_some]
   simp only[zac]at ih
   rw[ih]
   by_cases e:x=y
   . subst e;simp
   . have:((x.toNat:Int)==(y.toNat:Int))=false:=by
      rw[beq_eq_false_iff_ne];intro h2
      exact e (UInt8.toNat_inj.1 (by omega))
     rw[this];simp[e]
 | [],_::_,h=>by simp at h
 | _::_,[],h=>by simp at h
theorem eqB {a b:Dg}(ha:a.length=16)(hb:b.length=16):eqAV (.ar 16 .it) (.agg (zac a)) (.agg (zac b))=some (decide (a=b)):=by
 have:=eqB_all a b (by omega)
 rw[eqAV,if_pos ⟨by rw[zab];exact ha,by rw[zab];exact hb⟩]
 exact this
def lf (s:List UInt8):Dg:=H.dig (H.inp 30 [s])
def nd (a b:Dg):Dg:=H.dig (H.inp 31 [a,b])
def em :Dg:=H.dig (H.inp 32 [])
theorem zcv (s:List UInt8):(lf s).length=16:=H.dig_len _
theorem zfm (a b:Dg):(nd a b).length=16:=H.dig_len _
theorem zka :em.length=16:=H.dig_len _
section
variable [Nonempty (GlK gl)]
theorem leaf_at (h:7<=n)(s:List UInt8)(hs:s.length<=1048576):call gl tab n 85 [.str s] []=some (bAV (lf s),[],[]):=by
 obtain⟨d,rfl⟩:=wA h
 have c:=@H.of_at gl _ (d+5) (by omega) 30 false [s] ⟨by simp,fun x hx=>by simp at hx;subst hx;exact hs⟩
 simp only[H.strsAV,wI,wJ]at c
 rw[show H.dig (H.inp 30 [s])=lf s from rfl]at c
 have hl:=zcv s
 have hb:=H.bytes_all (lf s)
 generalize lf s=q at *
 rw[zad (fd:=fd85) rfl]
 simp(disch:=apply zq;omega) only[go_sem,simprocAttr,↓Nat.reduceEqDiff,xx,fd85,m85,↓out16_eq,H.out16_len,H.out16_all,H.out16_pl,c,hl,hb,H.noImms_bytesAV]
theorem zl2 (h:7<=n){a b:Dg}(ha:a.length=16)(hb:b.length=16):call gl tab n 105 [bAV a,bAV b] []=some (bAV (nd a b),[],[]):=by
 obtain⟨d,rfl⟩:=wA h
 have c:=@H.of_at gl _ (d+5) (by omega) 31 false [a,b] ⟨by simp,fun x hx=>by simp at hx;rcases hx with rfl|rfl<;>omega⟩
 simp only[H.strsAV,wI,wJ]at c
 rw[show H.dig (H.inp 31 [a,b])=nd a b from rfl]at c
 have hl:=zfm a b
 have hq:=H.bytes_all (nd a b)
 generalize nd a b=q at *
 have a1:=b16t ha
 have a2:=H.bytes_all a
 have b1:=b16t hb
 have b2:=H.bytes_all b
 rw[zad (fd:=z6t) rfl]
 simp(implicitDefEqProofs:=false) (disch:=apply zq;omega) only[go_sem,simprocAttr,↓Nat.reduceEqDiff,xx,z6t,m105,↓out16_eq,H.out16_len,H.out16_all,H.out16_pl,c,hl,hq,ha,hb,a1,a2,b1,b2,H.noImms_bytesAV]
theorem zpz (h:7<=n):call gl tab n 107 [] []=some (bAV em,[],[]):=by
 obtain⟨d,rfl⟩:=wA h
 have c:=fun f=>@H.of_at gl _ (d+5) (by omega) 32 f [] ⟨by simp,fun x hx=>by simp at hx⟩
 simp only[H.strsAV,wJ]at c
 rw[show H.dig (H.inp 32 [])=em from rfl]at c
 have hl:=zka
 have hb:=H.bytes_all em
 generalize em=q at *
 rw[zad (fd:=z6s) rfl]
 simp(disch:=apply zq;omega) only[go_sem,simprocAttr,↓Nat.reduceEqDiff,xx,z6s,m107,↓out16_eq,H.out16_len,H.out16_all,H.out16_pl,c,hl,hb,H.noImms_bytesAV]
end
section
variable [Nonempty (GlR gl)]
theorem rleaf_at (h:7<=n)(s:List UInt8)(hs:s.length<=1048576):call gl tab n 79 [.str s] []=some (bAV (lf s),[],[]):=by
 obtain⟨d,rfl⟩:=wA h
 have c:=@H.rof_at gl _ (d+4) (by omega) 30 false [s] ⟨by simp,fun x hx=>by simp at hx;subst hx;exact hs⟩
 simp only[H.strsAV,wI,wJ]at c
 rw[show H.dig (H.inp 30 [s])=lf s from rfl]at c
 have hl:=zcv s
 have hb:=H.bytes_all (lf s)
 generalize lf s=q at *
 rw[zad (fd:=fd79) rfl]
 simp(disch:=apply zq;omega) only[go_sem,simprocAttr,↓Nat.reduceEqDiff,xx,fd79,m79,↓out16_eq,H.out16_len,H.out16_all,H.out16_pl,c,hl,hb,H.noImms_bytesAV]
theorem zuq (h:7<=n){a b:Dg}(ha:a.length=16)(hb:b.length=16):call gl tab n 101 [bAV a,bAV b] []=some (bAV (nd a b),[],[]):=by
 obtain⟨d,rfl⟩:=wA h
 have c:=@H.rof_at gl _ (d+4) (by omega) 31 false [a,b] ⟨by simp,fun x hx=>by simp at hx;rcases hx with rfl|rfl<;>omega⟩
 simp only[H.strsAV,wI,wJ]at c
 rw[show H.dig (H.inp 31 [a,b])=nd a b from rfl]at c
 have hl:=zfm a b
 have hq:=H.bytes_all (nd a b)
 generalize nd a b=q at *
 have a1:=b16t ha
 have a2:=H.bytes_all a
 have b1:=b16t hb
 have b2:=H.bytes_all b
 rw[zad (fd:=z6w) rfl]
 simp(implicitDefEqProofs:=false) (disch:=apply zq;omega) only[go_sem,simprocAttr,↓Nat.reduceEqDiff,xx,z6w,m101,↓out16_eq,H.out16_len,H.out16_all,H.out16_pl,c,hl,hq,ha,hb,a1,a2,b1,b2,H.noImms_bytesAV]
theorem zqw (h:7<=n):call gl tab n 99 [] []=some (bAV em,[],[]):=by
 obtain⟨d,rfl⟩:=wA h
 have c:=fun f=>@H.rof_at gl _ (d+4) (by omega) 32 f [] ⟨by simp,fun x hx=>by simp at hx⟩
 simp only[H.strsAV,wJ]at c
 rw[show H.dig (H.inp 32 [])=em from rfl]at c
 have hl:=zka
 have hb:=H.bytes_all em
 generalize em=q at *
 rw[zad (fd:=fd99) rfl]
 simp(disch:=apply zq;omega) only[go_sem,simprocAttr,↓Nat.reduceEqDiff,xx,fd99,m99,↓out16_eq,H.out16_len,H.out16_all,H.out16_pl,c,hl,hb,H.noImms_bytesAV]
end
end Go.Proofs.S44.M
