/-
  Clocks, in plain terms: periods of readings, and the first one that is late. No condition.
-/
import Derived.Test.YtjenmopgcpnklaaDoorEvY
import Derived.Test.YtjenmopgcpnklaaDoorW30G11x5
set_option linter.unusedVariables false
set_option linter.unusedSimpArgs false
set_option linter.unusedSectionVars false
namespace Go.Ck
def hiN (a d n:Nat):Nat:=min (a+(n+1)*1000000/(1000000-d)) 1099511627776
def loN (a d n:Nat):Nat:=min (a+((n-1)*1000000+(1000000+d)-1)/(1000000+d)) 1099511627776
theorem hiN_mono (a d:Nat){n m:Nat}(h:n<=m):hiN a d n<=hiN a d m:=by
 have:(n+1)*1000000/(1000000-d)<=(m+1)*1000000/(1000000-d):=Nat.div_le_div_right (Nat.mul_le_mul_right _ (by omega))
 unfold hiN;omega
theorem lo_le_hi {a b d:Nat}(h:a<=b)(hd:d<=100000)(n:Nat):loN a d n<=hiN b d n:=by
 have h1:((n-1)*1000000+(1000000+d)-1)/(1000000+d)<=n:=by
  rw[Nat.div_le_iff_le_mul (by omega)]
  have:(n-1)*1000000<=n*(1000000+d):=Nat.mul_le_mul (by omega) (by omega)
  omega
 have h2:n+1<=(n+1)*1000000/(1000000-d):=by
  rw[Nat.le_div_iff_mul_le (by omega)]
  exact Nat.mul_le_mul_left _ (by omega)
 unfold hiN loN;omega
theorem ceil_eq (x f:Nat)(hf:0<f):(x+f-1)/f=if x/f*f<x then x/f+1 else x/f:=by
 have e:=Nat.div_add_mod x f
 have hm:=Nat.mod_lt x hf
 rw[Nat.mul_comm]at e
 by_cases h:x/f*f<x
 . rw[if_pos h]
   have:x+f-1=(x%f-1)+f*(x/f+1):=by rw[Nat.mul_add,Nat.mul_comm f];omega
   rw[this,Nat.add_mul_div_left _ _ hf,Nat.div_eq_of_lt (by omega)];omega
 . rw[if_neg h]
   have:x+f-1=(f-1)+f*(x/f):=by rw[Nat.mul_comm f];omega
   rw[this,Nat.add_mul_div_left _ _ hf,Nat.div_eq_of_lt (by omega)];omega
def ear (a d t n:Nat):Bool:=decide (hiN a d n<t)
theorem ear_anti {a d t n m:Nat}(h:n<=m)(he:ear a d t m=true):ear a d t n=true:=by
 have:=hiN_mono a d h
 simp only[ear,decide_eq_true_eq]at *;omega
def cnt (p:Nat->Bool):Nat->Nat
 | 0=>0
 | n+1=>if cnt p n=n/\p n=true then n+1 else cnt p n
theorem cnt_le (p:Nat->Bool):∀n,cnt p n<=n
 | 0=>Nat.le_refl _
 | n+1=>by have:=cnt_le p n;unfold cnt;split<;>omega
theorem cnt_lt {p:Nat->Bool}(ha:∀n m,n<=m->p m=true->p n=true):∀(N j:Nat),j<N->(p j=true↔j<cnt p N)
 | N+1,j,h=>by
   have hl:=cnt_le p N
   unfold cnt
   by_cases hc:cnt p N=N/\p N=true
   . rw[if_pos hc]
     exact⟨fun _=>h,fun _=>ha j N (by omega) hc.2⟩
   . rw[if_neg hc]
     by_cases hj:j<N
     . exact cnt_lt ha N j hj
     . have e:j=N:=by omega
       subst e
       refine⟨fun h1=> ?_,fun h1=>by omega⟩
       by_cases h2:cnt p j=j
       . exact absurd ⟨h2,h1⟩ hc
       . have h3:cnt p j<j:=by omega
         have:=(cnt_lt ha j (cnt p j) h3).1 (ha _ j (by omega) h1)
         omega
def lateN (a d t N:Nat):Nat:=cnt (ear a d t) N
theorem lateN_le (a d t N:Nat):lateN a d t N<=N:=cnt_le _ _
theorem lateN_iff {a d t N j:Nat}(h:j<N):ear a d t j=true↔j<lateN a d t N:=cnt_lt (fun _ _=>ear_anti) N j h
end Go.Ck
namespace Go.Proofs.S30.G
open Go Go.Ev Go.Proofs
variable {gl :Gl} {n:Nat}
structure Gt where
 s:Int
 h:Int
 u:Int
 deriving DecidableEq
abbrev sG :Sh:=.st [.sc,.sc,.sc]
abbrev gr (x:Gt):AV:=.agg [i64 x.s,i64 x.h,i64 x.u]
def gs (l:List Gt):List AV:=l.map gr
theorem gs_length (l:List Gt):(gs l).length=l.length:=by simp[gs]
def gat (l:List Gt)(i:Nat):Gt:=l.getD i ⟨0,0,0⟩
theorem gs_at {l:List Gt}{i:Nat}(h:i<l.length):(gs l)[i]? =some (.agg [i64 (gat l i).s,i64 (gat l i).h,i64 (gat l i).u]):=by simp[gs,gat,h]
theorem gat_eq {l:List Gt}{i:Nat}(h:i<l.length):gat l i=l[i]:=by simp[gat,h]
theorem gs_noImms :∀(l:List Gt),noImms (gs l)=true
 | []=>rfl
 | x::l=>by
   have:=gs_noImms l
   rw[gs,List.map_cons,noImms,<-gs,this];rfl
def Mg (l:List Gt)(m:Sh):Prop:=l=[]\/m=sG
theorem Mg.of {l:List Gt}{m:Sh}(h:Mg l m){i:Nat}(hi:i<l.length):m=sG:=by
 rcases h with h|h
 . subst h;simp at hi
 . exact h
abbrev gAV (t m:Int)(f:Bool)(sh:Sh)(l:List Gt):AV:=.agg [i64 t,i64 m,.lst f sh (gs l)]
def pv (l:List Gt):Nat->Int
 | 0=>-1
 | i+1=>(gat l i).s
def RowOk (t:Int)(l:List Gt)(i:Nat):Prop :=
 (0<=(gat l i).s/\(gat l i).s<64)/\pv l i<(gat l i).s/\0<=(gat l i).h/\0<=(gat l i).u/\(gat l i).h<=t/\(gat l i).u<=1099511627776
def VG (t m:Int)(l:List Gt):Prop:=(∀i,i<l.length->RowOk t l i)/\(0<=t/\t<=1099511627776)/\1<=m/\m<=3600000
instance (t :Int) (l:List Gt) (i:Nat):Decidable (RowOk t l i):=by unfold RowOk;infer_instance
instance (t m:Int) (l:List Gt):Decidable (VG t m l):=by unfold VG;infer_instance
theorem isite_at (h:1<=n)(a:Int):call gl tab n 33 [i64 a] []=some (.bool (isSite a),[],[]):=by
 obtain⟨d,rfl⟩:=Nat.exists_eq_add_of_le' h
 rw[call_go (fd:=fd33) rfl]
 unfold isSite
 by_cases h1:0<=a
 . by_cases h2:a<64
   . rw[decide_eq_true ⟨h1,h2⟩];simp(disch:=((fail_if_success (intro _));omega)) only[go_sem,simprocAttr,↓reduceIte,↓Nat.reduceEqDiff,xx,fd33,m33]
   . rw[decide_eq_false (fun h=>h2 h.2)];simp(disch:=((fail_if_success (intro _));omega)) only[go_sem,simprocAttr,↓reduceIte,↓Nat.reduceEqDiff,xx,fd33,m33]
 . rw[decide_eq_false (fun h=>h1 h.1)];simp(disch:=((fail_if_success (intro _));omega)) only[go_sem,simprocAttr,↓reduceIte,↓Nat.reduceEqDiff,xx,fd33,m33]
theorem risite_at (h:1<=n)(a:Int):call gl tab n 38 [i64 a] []=some (.bool (isSite a),[],[]):=by
 obtain⟨d,rfl⟩:=Nat.exists_eq_add_of_le' h
 rw[call_go (fd:=fd38) rfl]
 unfold isSite
 by_cases h1:0<=a
 . by_cases h2:a<64
   . rw[decide_eq_true ⟨h1,h2⟩];simp(disch:=((fail_if_success (intro _));omega)) only[go_sem,simprocAttr,↓reduceIte,↓Nat.reduceEqDiff,xx,fd38,m38]
   . rw[decide_eq_false (fun h=>h2 h.2)];simp(disch:=((fail_if_success (intro _));omega)) only[go_sem,simprocAttr,↓reduceIte,↓Nat.reduceEqDiff,xx,fd38,m38]
 . rw[decide_eq_false (fun h=>h1 h.1)];simp(disch:=((fail_if_success (intro _));omega)) only[go_sem,simprocAttr,↓reduceIte,↓Nat.reduceEqDiff,xx,fd38,m38]
def L20 :MC:=match m20 with| .seq _ (.seq _ (.seq (.seq _ (.block _ (.loop _ b))) _))=>b|_=>.skip
def S20 (t m:Int)(f:Bool)(sh:Sh)(l:List Gt)(i:Nat):St :=
 ⟨[.set 9 (i64 i),.set 8 (i64 l.length),.set 7 (.lst f sh (gs l)),.set 3 (i64 (pv l i)),.set 1 (.ptr 1 [])],[(1,.fix sG (gAV t m f sh l))]⟩
theorem valid_at (h:2<=n){t m:Int}{f:Bool}{sh:Sh}{l:List Gt}(hm:Mg l sh)(hl:l.length<=1000000) :
  call gl tab n 20 [gAV t m f sh l] []=some (.bool (decide (VG t m l)),[],[]):=by
 obtain⟨d,rfl⟩:=Nat.exists_eq_add_of_le' h
 have hL:=gs_length l
 have hs:∀i,i<l.length->RowOk t l i->contK [.slot 1,.slot 3,.slot 7,.slot 8,.slot 9,.key 1] (evC gl (call gl tab (d+1)) L20 (S20 t m f sh l i))=some (S20 t m f sh l (i+1)):=fun i hi hp=>by
  obtain rfl:=hm.of hi
  have hx:=gs_at hi
  have c:=@isite_at gl (d+1) (by omega) (gat l i).s
  obtain⟨h1,h2,h3,h4,h5,h6⟩:=hp
  rw[show isSite (gat l i).s=true from decide_eq_true h1]at c
  rw[S20,S20,pv]
  generalize pv l i=p at *
  generalize gat l i=x at *
  obtain⟨w,hw,w1,w2,w3⟩:=min_ex x.h x.u
  simp(disch:=((fail_if_success (intro _));omega)) only[go_sem,simprocAttr,↓reduceIte,↓Nat.reduceEqDiff,xx,L20,m20,hL,hx,c,hw]
 have hf:∀i,i<l.length->¬RowOk t l i->out1 2 (evC gl (call gl tab (d+1)) L20 (S20 t m f sh l i))=some (.ret,.bool false):=fun i hi hp=>by
  obtain rfl:=hm.of hi
  have hx:=gs_at hi
  have c:=@isite_at gl (d+1) (by omega) (gat l i).s
  rw[S20]
  unfold RowOk at hp
  generalize pv l i=p at *
  generalize gat l i=x at *
  by_cases h1:0<=x.s/\x.s<64
  . rw[show isSite x.s=true from decide_eq_true h1]at c
    obtain⟨w,hw,w1,w2,w3⟩:=min_ex x.h x.u
    by_cases h2:p<x.s
    . by_cases h3:0<=w
      . by_cases h5:x.h<=t
        . simp(disch:=((fail_if_success (intro _));omega)) only[go_sem,simprocAttr,↓reduceIte,↓Nat.reduceEqDiff,xx,L20,m20,hL,hx,c,hw]
        . simp(disch:=((fail_if_success (intro _));omega)) only[go_sem,simprocAttr,↓reduceIte,↓Nat.reduceEqDiff,xx,L20,m20,hL,hx,c,hw]
      . simp(disch:=((fail_if_success (intro _));omega)) only[go_sem,simprocAttr,↓reduceIte,↓Nat.reduceEqDiff,xx,L20,m20,hL,hx,c,hw]
    . simp(disch:=((fail_if_success (intro _));omega)) only[go_sem,simprocAttr,↓reduceIte,↓Nat.reduceEqDiff,xx,L20,m20,hL,hx,c]
  . rw[show isSite x.s=false from decide_eq_false h1]at c
    simp(disch:=((fail_if_success (intro _));omega)) only[go_sem,simprocAttr,↓reduceIte,↓Nat.reduceEqDiff,xx,L20,m20,hL,hx,c]
 rw[call_go (fd:=fd20) rfl]
 rcases first_fail (RowOk t l) l.length with ha|⟨q,hq,hb,he⟩
 . have hs2:=fun i hi=>hs i hi (ha i hi)
   simp only[L20,m20]at hs2
   simp(disch:=((fail_if_success (intro _));omega)) only[go_sem,simprocAttr,↓reduceIte,↓Nat.reduceEqDiff,xx,fd20,m20,hL]
   rw[iter_to (S20 t m f sh l) l.length (by unfold LF;omega)]
   . rw[S20]
     generalize pv l l.length=p at *
     by_cases h1:0<=t
     . by_cases h2:t<=1099511627776
       . by_cases h3:1<=m
         . by_cases h4:m<=3600000
           . rw[decide_eq_true (show VG t m l from⟨ha,⟨h1,h2⟩,h3,h4⟩)];simp(disch:=((fail_if_success (intro _));omega)) only[go_sem,simprocAttr,↓reduceIte,↓Nat.reduceEqDiff,xx,hL]
           . rw[decide_eq_false (fun h:VG t m l=>h4 h.2.2.2)];simp(disch:=((fail_if_success (intro _));omega)) only[go_sem,simprocAttr,↓reduceIte,↓Nat.reduceEqDiff,xx,hL]
         . rw[decide_eq_false (fun h:VG t m l=>h3 h.2.2.1)];simp(disch:=((fail_if_success (intro _));omega)) only[go_sem,simprocAttr,↓reduceIte,↓Nat.reduceEqDiff,xx,hL]
       . rw[decide_eq_false (fun h:VG t m l=>h2 h.2.1.2)];simp(disch:=((fail_if_success (intro _));omega)) only[go_sem,simprocAttr,↓reduceIte,↓Nat.reduceEqDiff,xx,hL]
     . rw[decide_eq_false (fun h:VG t m l=>h1 h.2.1.1)];simp(disch:=((fail_if_success (intro _));omega)) only[go_sem,simprocAttr,↓reduceIte,↓Nat.reduceEqDiff,xx,hL]
   . rw[S20,pv];simp(disch:=((fail_if_success (intro _));omega)) only[go_sem,simprocAttr,↓reduceIte,↓Nat.reduceEqDiff,xx,hL]
   . exact hs2
   . rw[S20];simp(disch:=((fail_if_success (intro _));omega)) only[go_sem,simprocAttr,↓reduceIte,↓Nat.reduceEqDiff,xx,hL]
 . obtain⟨st,hst,hg⟩:=out1_get (hf q hq he)
   have hs2:=fun i (hi:i<q)=>hs i (by omega) (hb i hi)
   simp only[L20,m20]at hs2 hst
   rw[decide_eq_false (fun h:VG t m l=>he (h.1 q hq))]
   simp(disch:=((fail_if_success (intro _));omega)) only[go_sem,simprocAttr,↓reduceIte,↓Nat.reduceEqDiff,xx,fd20,m20,hL]
   rw[iter_to (S20 t m f sh l) q (by unfold LF;omega),hst]
   . simp(disch:=((fail_if_success (intro _));omega)) only[go_sem,simprocAttr,↓reduceIte,↓Nat.reduceEqDiff,xx,hg]
   . rw[S20,pv];simp(disch:=((fail_if_success (intro _));omega)) only[go_sem,simprocAttr,↓reduceIte,↓Nat.reduceEqDiff,xx,hL]
   . exact hs2
   . rw[hst];rfl
end Go.Proofs.S30.G
namespace Go.Proofs.S30.G
open Go Go.Ev Go.Proofs
variable {gl :Gl} {n:Nat}
def L21 :MC:=match m21 with| .seq _ (.seq _ (.seq (.seq _ (.block _ (.loop _ b))) _))=>b|_=>.skip
def S21 (t m:Int)(f:Bool)(sh:Sh)(l:List Gt)(i:Nat):St:=⟨[.set 3 (i64 i),.set 1 (.ptr 1 [])],[(1,.fix sG (gAV t m f sh l))]⟩
theorem step21 {d:Nat}{t m:Int}{f:Bool}{l:List Gt}(hl:l.length<=1000000)(i:Nat)(hi:i<l.length)(hp:RowOk t l i) :
  contK [.slot 1,.slot 3,.key 1] (evC gl (call gl tab (d+1)) L21 (S21 t m f sG l i))=some (S21 t m f sG l (i+1)):=by
 have hL:=gs_length l
 have hx:=gs_at hi
 have c:=@risite_at gl (d+1) (by omega) (gat l i).s
 obtain⟨h1,h2,h3,h4,h5,h6⟩:=hp
 rw[show isSite (gat l i).s=true from decide_eq_true h1]at c
 rw[S21,S21]
 match i,hi with
 | 0,hi =>
   replace hx:(gs l)[0]? =_:=hx
   generalize gat l 0=x at *
   simp(implicitDefEqProofs:=false) (disch:=((fail_if_success (intro _));omega)) only[go_sem,simprocAttr,↓reduceIte,↓Nat.reduceEqDiff,xx,L21,m21,hL,hx,c]
 | i+1,hi =>
   have hy:=gs_at (show i<l.length by omega)
   have e0:((i+1:Nat):Int)-1=(i:Int):=by omega
   have e1:(0:Int)<((i+1:Nat):Int):=by omega
   rw[pv]at h2
   generalize gat l (i+1)=x at *
   generalize gat l i=y at *
   have e2:((i+1+1:Nat):Int)=((i+1:Nat):Int)+1:=by omega
   rw[e2]
   generalize hj:i+1=j at *
   simp(implicitDefEqProofs:=false) (disch:=((fail_if_success (intro _));omega)) only[go_sem,simprocAttr,↓reduceIte,↓Nat.reduceEqDiff,xx,L21,m21,hL,hx,hy,c,e0,e1]
theorem fail21 {d:Nat}{t m:Int}{f:Bool}{l:List Gt}(hl:l.length<=1000000)(i:Nat)(hi:i<l.length)(hp:¬RowOk t l i) :
  out1 2 (evC gl (call gl tab (d+1)) L21 (S21 t m f sG l i))=some (.ret,.bool false):=by
 have hL:=gs_length l
 have hx:=gs_at hi
 have c:=@risite_at gl (d+1) (by omega) (gat l i).s
 rw[S21]
 unfold RowOk at hp
 by_cases h1:0<=(gat l i).s/\(gat l i).s<64
 case neg =>
  rw[show isSite (gat l i).s=false from decide_eq_false h1]at c
  generalize gat l i=x at *
  clear hp
  simp(implicitDefEqProofs:=false) (disch:=((fail_if_success (intro _));omega)) only[go_sem,simprocAttr,↓reduceIte,↓Nat.reduceEqDiff,xx,L21,m21,hL,hx,c]
 rw[show isSite (gat l i).s=true from decide_eq_true h1]at c
 by_cases h3:0<=(gat l i).h
 case neg =>
  generalize gat l i=x at *
  clear hp
  simp(implicitDefEqProofs:=false) (disch:=((fail_if_success (intro _));omega)) only[go_sem,simprocAttr,↓reduceIte,↓Nat.reduceEqDiff,xx,L21,m21,hL,hx,c]
 by_cases h5:(gat l i).h<=t
 case neg =>
  generalize gat l i=x at *
  clear hp
  simp(implicitDefEqProofs:=false) (disch:=((fail_if_success (intro _));omega)) only[go_sem,simprocAttr,↓reduceIte,↓Nat.reduceEqDiff,xx,L21,m21,hL,hx,c]
 by_cases h4:0<=(gat l i).u
 case neg =>
  generalize gat l i=x at *
  clear hp
  simp(implicitDefEqProofs:=false) (disch:=((fail_if_success (intro _));omega)) only[go_sem,simprocAttr,↓reduceIte,↓Nat.reduceEqDiff,xx,L21,m21,hL,hx,c]
 by_cases h6:(gat l i).u<=1099511627776
 case neg =>
  generalize gat l i=x at *
  clear hp
  simp(implicitDefEqProofs:=false) (disch:=((fail_if_success (intro _));omega)) only[go_sem,simprocAttr,↓reduceIte,↓Nat.reduceEqDiff,xx,L21,m21,hL,hx,c]
 have h2:¬pv l i<(gat l i).s:=fun h=>hp ⟨h1,h,h3,h4,h5,h6⟩
 clear hp
 match i,hi with
 | 0,hi=>rw[pv]at h2;omega
 | i+1,hi =>
   have hy:=gs_at (show i<l.length by omega)
   have e0:((i+1:Nat):Int)-1=(i:Int):=by omega
   have e1:(0:Int)<((i+1:Nat):Int):=by omega
   rw[pv]at h2
   generalize gat l (i+1)=x at *
   generalize gat l i=y at *
   generalize hj:i+1=j at *
   simp(implicitDefEqProofs:=false) (disch:=((fail_if_success (intro _));omega)) only[go_sem,simprocAttr,↓reduceIte,↓Nat.reduceEqDiff,xx,L21,m21,hL,hx,hy,c,e0,e1]
theorem rvalid_at (h:2<=n){t m:Int}{f:Bool}{sh:Sh}{l:List Gt}(hm:Mg l sh)(hl:l.length<=1000000) :
  call gl tab n 21 [gAV t m f sh l] []=some (.bool (decide (VG t m l)),[],[]):=by
 obtain⟨d,rfl⟩:=Nat.exists_eq_add_of_le' h
 have hL:=gs_length l
 rw[call_go (fd:=fd21) rfl]
 by_cases g1:0<=t
 case neg=>rw[decide_eq_false (fun h:VG t m l=>g1 h.2.1.1)];simp(disch:=((fail_if_success (intro _));omega)) only[go_sem,simprocAttr,↓reduceIte,↓Nat.reduceEqDiff,xx,fd21,m21,hL]
 by_cases g2:t<=1099511627776
 case neg=>rw[decide_eq_false (fun h:VG t m l=>g2 h.2.1.2)];simp(disch:=((fail_if_success (intro _));omega)) only[go_sem,simprocAttr,↓reduceIte,↓Nat.reduceEqDiff,xx,fd21,m21,hL]
 by_cases g3:1<=m
 case neg=>rw[decide_eq_false (fun h:VG t m l=>g3 h.2.2.1)];simp(disch:=((fail_if_success (intro _));omega)) only[go_sem,simprocAttr,↓reduceIte,↓Nat.reduceEqDiff,xx,fd21,m21,hL]
 by_cases g4:m<=3600000
 case neg=>rw[decide_eq_false (fun h:VG t m l=>g4 h.2.2.2)];simp(disch:=((fail_if_success (intro _));omega)) only[go_sem,simprocAttr,↓reduceIte,↓Nat.reduceEqDiff,xx,fd21,m21,hL]
 rcases first_fail (RowOk t l) l.length with ha|⟨q,hq,hb,he⟩
 . have hs2:∀i,i<l.length->contK [.slot 1,.slot 3,.key 1] (evC gl (call gl tab (d+1)) L21 (S21 t m f sh l i))=some (S21 t m f sh l (i+1)):=fun i hi=>by
    obtain rfl:=hm.of hi
    exact step21 hl i hi (ha i hi)
   simp only[L21,m21]at hs2
   rw[decide_eq_true (show VG t m l from⟨ha,⟨g1,g2⟩,g3,g4⟩)]
   simp(disch:=((fail_if_success (intro _));omega)) only[go_sem,simprocAttr,↓reduceIte,↓Nat.reduceEqDiff,xx,fd21,m21,hL]
   rw[iter_to (S21 t m f sh l) l.length (by unfold LF;omega)]
   . rw[S21];simp(disch:=((fail_if_success (intro _));omega)) only[go_sem,simprocAttr,↓reduceIte,↓Nat.reduceEqDiff,xx,hL]
   . rw[S21];simp(disch:=((fail_if_success (intro _));omega)) only[go_sem,simprocAttr,↓reduceIte,↓Nat.reduceEqDiff,xx,hL]
   . exact hs2
   . rw[S21];simp(disch:=((fail_if_success (intro _));omega)) only[go_sem,simprocAttr,↓reduceIte,↓Nat.reduceEqDiff,xx,hL]
 . obtain rfl:=hm.of hq
   obtain⟨st,hst,hg⟩:=out1_get (fail21 (gl:=gl) (d:=d) (m:=m) (f:=f) hl q hq he)
   have hs2:=fun i (hi:i<q)=>step21 (gl:=gl) (d:=d) (m:=m) (f:=f) hl i (by omega) (hb i hi)
   simp only[L21,m21]at hs2 hst
   rw[decide_eq_false (fun h:VG t m l=>he (h.1 q hq))]
   simp(disch:=((fail_if_success (intro _));omega)) only[go_sem,simprocAttr,↓reduceIte,↓Nat.reduceEqDiff,xx,fd21,m21,hL]
   rw[iter_to (S21 t m f sG l) q (by unfold LF;omega),hst]
   . simp(disch:=((fail_if_success (intro _));omega)) only[go_sem,simprocAttr,↓reduceIte,↓Nat.reduceEqDiff,xx,hg]
   . rw[S21];simp(disch:=((fail_if_success (intro _));omega)) only[go_sem,simprocAttr,↓reduceIte,↓Nat.reduceEqDiff,xx,hL]
   . exact hs2
   . rw[hst];rfl
end Go.Proofs.S30.G
