/-
  Chapter 30: valid grants. No condition.
-/
import Derived.Test.YtjenmopgcpnklaaGreatDoorW90G14x3
set_option linter.unusedVariables false
set_option linter.unusedSimpArgs false
set_option linter.unusedSectionVars false
namespace Go.Proofs.S90.G
open Go Go.Ev Go.Proofs
variable {gl :Gl} {n:Nat}
structure Gt where
 s:Int
 h:Int
 u:Int
 deriving DecidableEq
abbrev sG :Sh:=.st [.sc,.sc,.sc]
abbrev gr (x:Gt):AV:=.agg [i64 x.s,i64 x.h,i64 x.u]
def gs (l:List Gt):List AV:=l.map gr
theorem gs_length (l:List Gt):(gs l).length=l.length:=by simp[gs]
def gat (l:List Gt)(i:Nat):Gt:=l.getD i ⟨0,0,0⟩
theorem gs_at {l:List Gt}{i:Nat}(h:i<l.length):(gs l)[i]? =some (.agg [i64 (gat l i).s,i64 (gat l i).h,i64 (gat l i).u]):=by simp[gs,gat,h]
theorem gat_eq {l:List Gt}{i:Nat}(h:i<l.length):gat l i=l[i]:=by simp[gat,h]
theorem gs_noImms :∀(l:List Gt),noImms (gs l)=true
 | []=>rfl
 | x::l=>by
   have:=gs_noImms l
   rw[gs,List.map_cons,noImms,<-gs,this];rfl
def Mg (l:List Gt)(m:Sh):Prop:=l=[]\/m=sG
theorem Mg.of {l:List Gt}{m:Sh}(h:Mg l m){i:Nat}(hi:i<l.length):m=sG:=by
 rcases h with h|h
 . subst h;simp at hi
 . exact h
abbrev gAV (t m:Int)(f:Bool)(sh:Sh)(l:List Gt):AV:=.agg [i64 t,i64 m,.lst f sh (gs l)]
def pv (l:List Gt):Nat->Int
 | 0=>-1
 | i+1=>(gat l i).s
def RowOk (t:Int)(l:List Gt)(i:Nat):Prop :=
 (0<=(gat l i).s/\(gat l i).s<64)/\pv l i<(gat l i).s/\0<=(gat l i).h/\0<=(gat l i).u/\(gat l i).h<=t/\(gat l i).u<=1099511627776
def VG (t m:Int)(l:List Gt):Prop:=(∀i,i<l.length->RowOk t l i)/\(0<=t/\t<=1099511627776)/\1<=m/\m<=3600000
instance (t :Int) (l:List Gt) (i:Nat):Decidable (RowOk t l i):=by unfold RowOk;infer_instance
instance (t m:Int) (l:List Gt):Decidable (VG t m l):=by unfold VG;infer_instance
theorem isite_at (h:1<=n)(a:Int):call gl tab n 36 [i64 a] []=some (.bool (isSite a),[],[]):=by
 obtain⟨d,rfl⟩:=Nat.exists_eq_add_of_le' h
 rw[call_go (fd:=fd36) rfl]
 unfold isSite
 by_cases h1:0<=a
 . by_cases h2:a<64
   . rw[decide_eq_true ⟨h1,h2⟩];simp(disch:=((fail_if_success (intro _));omega)) only[go_sem,simprocAttr,↓reduceIte,↓Nat.reduceEqDiff,xx,fd36,m36]
   . rw[decide_eq_false (fun h=>h2 h.2)];simp(disch:=((fail_if_success (intro _));omega)) only[go_sem,simprocAttr,↓reduceIte,↓Nat.reduceEqDiff,xx,fd36,m36]
 . rw[decide_eq_false (fun h=>h1 h.1)];simp(disch:=((fail_if_success (intro _));omega)) only[go_sem,simprocAttr,↓reduceIte,↓Nat.reduceEqDiff,xx,fd36,m36]
theorem risite_at (h:1<=n)(a:Int):call gl tab n 45 [i64 a] []=some (.bool (isSite a),[],[]):=by
 obtain⟨d,rfl⟩:=Nat.exists_eq_add_of_le' h
 rw[call_go (fd:=fd45) rfl]
 unfold isSite
 by_cases h1:0<=a
 . by_cases h2:a<64
   . rw[decide_eq_true ⟨h1,h2⟩];simp(disch:=((fail_if_success (intro _));omega)) only[go_sem,simprocAttr,↓reduceIte,↓Nat.reduceEqDiff,xx,fd45,m45]
   . rw[decide_eq_false (fun h=>h2 h.2)];simp(disch:=((fail_if_success (intro _));omega)) only[go_sem,simprocAttr,↓reduceIte,↓Nat.reduceEqDiff,xx,fd45,m45]
 . rw[decide_eq_false (fun h=>h1 h.1)];simp(disch:=((fail_if_success (intro _));omega)) only[go_sem,simprocAttr,↓reduceIte,↓Nat.reduceEqDiff,xx,fd45,m45]
def L20 :MC:=match m35 with| .seq _ (.seq _ (.seq (.seq _ (.block _ (.loop _ b))) _))=>b|_=>.skip
def S20 (t m:Int)(f:Bool)(sh:Sh)(l:List Gt)(i:Nat):St :=
 ⟨[.set 9 (i64 i),.set 8 (i64 l.length),.set 7 (.lst f sh (gs l)),.set 3 (i64 (pv l i)),.set 1 (.ptr 1 [])],[(1,.fix sG (gAV t m f sh l))]⟩
theorem valid_at (h:2<=n){t m:Int}{f:Bool}{sh:Sh}{l:List Gt}(hm:Mg l sh)(hl:l.length<=1000000) :
  call gl tab n 35 [gAV t m f sh l] []=some (.bool (decide (VG t m l)),[],[]):=by
 obtain⟨d,rfl⟩:=Nat.exists_eq_add_of_le' h
 have hL:=gs_length l
 have hs:∀i,i<l.length->RowOk t l i->contK [.slot 1,.slot 3,.slot 7,.slot 8,.slot 9,.key 1] (evC gl (call gl tab (d+1)) L20 (S20 t m f sh l i))=some (S20 t m f sh l (i+1)):=fun i hi hp=>by
  obtain rfl:=hm.of hi
  have hx:=gs_at hi
  have c:=@isite_at gl (d+1) (by omega) (gat l i).s
  obtain⟨h1,h2,h3,h4,h5,h6⟩:=hp
  rw[show isSite (gat l i).s=true from decide_eq_true h1]at c
  rw[S20,S20,pv]
  generalize pv l i=p at *
  generalize gat l i=x at *
  obtain⟨w,hw,w1,w2,w3⟩:=min_ex x.h x.u
  simp(disch:=((fail_if_success (intro _));omega)) only[go_sem,simprocAttr,↓reduceIte,↓Nat.reduceEqDiff,xx,L20,m35,hL,hx,c,hw]
 have hf:∀i,i<l.length->¬RowOk t l i->out1 2 (evC gl (call gl tab (d+1)) L20 (S20 t m f sh l i))=some (.ret,.bool false):=fun i hi hp=>by
  obtain rfl:=hm.of hi
  have hx:=gs_at hi
  have c:=@isite_at gl (d+1) (by omega) (gat l i).s
  rw[S20]
  unfold RowOk at hp
  generalize pv l i=p at *
  generalize gat l i=x at *
  by_cases h1:0<=x.s/\x.s<64
  . rw[show isSite x.s=true from decide_eq_true h1]at c
    obtain⟨w,hw,w1,w2,w3⟩:=min_ex x.h x.u
    by_cases h2:p<x.s
    . by_cases h3:0<=w
      . by_cases h5:x.h<=t
        . simp(disch:=((fail_if_success (intro _));omega)) only[go_sem,simprocAttr,↓reduceIte,↓Nat.reduceEqDiff,xx,L20,m35,hL,hx,c,hw]
        . simp(disch:=((fail_if_success (intro _));omega)) only[go_sem,simprocAttr,↓reduceIte,↓Nat.reduceEqDiff,xx,L20,m35,hL,hx,c,hw]
      . simp(disch:=((fail_if_success (intro _));omega)) only[go_sem,simprocAttr,↓reduceIte,↓Nat.reduceEqDiff,xx,L20,m35,hL,hx,c,hw]
    . simp(disch:=((fail_if_success (intro _));omega)) only[go_sem,simprocAttr,↓reduceIte,↓Nat.reduceEqDiff,xx,L20,m35,hL,hx,c]
  . rw[show isSite x.s=false from decide_eq_false h1]at c
    simp(disch:=((fail_if_success (intro _));omega)) only[go_sem,simprocAttr,↓reduceIte,↓Nat.reduceEqDiff,xx,L20,m35,hL,hx,c]
 rw[call_go (fd:=fd35) rfl]
 rcases first_fail (RowOk t l) l.length with ha|⟨q,hq,hb,he⟩
 . have hs2:=fun i hi=>hs i hi (ha i hi)
   simp only[L20,m35]at hs2
   simp(disch:=((fail_if_success (intro _));omega)) only[go_sem,simprocAttr,↓reduceIte,↓Nat.reduceEqDiff,xx,fd35,m35,hL]
   rw[iter_to (S20 t m f sh l) l.length (by unfold LF;omega)]
   . rw[S20]
     generalize pv l l.length=p at *
     by_cases h1:0<=t
     . by_cases h2:t<=1099511627776
       . by_cases h3:1<=m
         . by_cases h4:m<=3600000
           . rw[decide_eq_true (show VG t m l from⟨ha,⟨h1,h2⟩,h3,h4⟩)];simp(disch:=((fail_if_success (intro _));omega)) only[go_sem,simprocAttr,↓reduceIte,↓Nat.reduceEqDiff,xx,hL]
           . rw[decide_eq_false (fun h:VG t m l=>h4 h.2.2.2)];simp(disch:=((fail_if_success (intro _));omega)) only[go_sem,simprocAttr,↓reduceIte,↓Nat.reduceEqDiff,xx,hL]
         . rw[decide_eq_false (fun h:VG t m l=>h3 h.2.2.1)];simp(disch:=((fail_if_success (intro _));omega)) only[go_sem,simprocAttr,↓reduceIte,↓Nat.reduceEqDiff,xx,hL]
       . rw[decide_eq_false (fun h:VG t m l=>h2 h.2.1.2)];simp(disch:=((fail_if_success (intro _));omega)) only[go_sem,simprocAttr,↓reduceIte,↓Nat.reduceEqDiff,xx,hL]
     . rw[decide_eq_false (fun h:VG t m l=>h1 h.2.1.1)];simp(disch:=((fail_if_success (intro _));omega)) only[go_sem,simprocAttr,↓reduceIte,↓Nat.reduceEqDiff,xx,hL]
   . rw[S20,pv];simp(disch:=((fail_if_success (intro _));omega)) only[go_sem,simprocAttr,↓reduceIte,↓Nat.reduceEqDiff,xx,hL]
   . exact hs2
   . rw[S20];simp(disch:=((fail_if_success (intro _));omega)) only[go_sem,simprocAttr,↓reduceIte,↓Nat.reduceEqDiff,xx,hL]
 . obtain⟨st,hst,hg⟩:=out1_get (hf q hq he)
   have hs2:=fun i (hi:i<q)=>hs i (by omega) (hb i hi)
   simp only[L20,m35]at hs2 hst
   rw[decide_eq_false (fun h:VG t m l=>he (h.1 q hq))]
   simp(disch:=((fail_if_success (intro _));omega)) only[go_sem,simprocAttr,↓reduceIte,↓Nat.reduceEqDiff,xx,fd35,m35,hL]
   rw[iter_to (S20 t m f sh l) q (by unfold LF;omega),hst]
   . simp(disch:=((fail_if_success (intro _));omega)) only[go_sem,simprocAttr,↓reduceIte,↓Nat.reduceEqDiff,xx,hg]
   . rw[S20,pv];simp(disch:=((fail_if_success (intro _));omega)) only[go_sem,simprocAttr,↓reduceIte,↓Nat.reduceEqDiff,xx,hL]
   . exact hs2
   . rw[hst];rfl
end Go.Proofs.S90.G
namespace Go.Proofs.S90.G
open Go Go.Ev Go.Proofs
variable {gl :Gl} {n:Nat}
def S21 (t m:Int)(f:Bool)(sh:Sh)(l:List Gt)(i:Nat):St:=⟨[.set 3 (i64 i),.set 1 (.ptr 1 [])],[(1,.fix sG (gAV t m f sh l))]⟩
end Go.Proofs.S90.G
