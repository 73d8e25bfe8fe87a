/-
  Chapter 30: deadlines, and who is waited for. No condition.
-/
import Derived.Test.YtjenmopgcpnklaaGreatDoorW90K
set_option linter.unusedVariables false
set_option linter.unusedSimpArgs false
set_option linter.unusedSectionVars false
namespace Go.Proofs.S90.G
open Go Go.Ev Go.Proofs
variable {gl :Gl} {n:Nat}
def mxU (l:List Gt):Nat->Int
 | 0=>0
 | j+1=>if mxU l j<(gat l j).u then(gat l j).u else mxU l j
def L12 :MC:=match m20 with| .seq _ (.seq _ (.seq _ (.seq (.seq _ (.block _ (.loop _ b))) _)))=>b|_=>.skip
def S12 (l:List Gt)(f:Bool)(sh:Sh)(e:Int)(j:Nat):St:=⟨[.set 19 (i64 j),.set 18 (i64 l.length),.set 17 (.lst f sh (gs l)),.set 8 (i64 (mxU l j)),.set 7 (i64 e)],[]⟩
theorem step12 {d:Nat}{l:List Gt}{f:Bool}{e:Int}(hl:l.length<=1000000)(j:Nat)(hj:j<l.length) :
  contK [.slot 7,.slot 8,.slot 17,.slot 18,.slot 19] (evC gl (call gl tab d) L12 (S12 l f sG e j))=some (S12 l f sG e (j+1)):=by
 have hL:=gs_length l
 have hx:=gs_at hj
 obtain⟨w,hw,w1,w2,w3⟩:=max_ex (mxU l j) (gat l j).u
 have e1:mxU l (j+1)=w:=by rw[mxU];split<;>omega
 rw[S12,S12,e1]
 generalize mxU l j=y at *
 generalize gat l j=x at *
 simp(disch:=((fail_if_success (intro _));omega)) only[go_sem,simprocAttr,↓reduceIte,↓Nat.reduceEqDiff,xx,L12,m20,hL,hx,hw]
section
variable {t m:Int} {f:Bool} {sh:Sh} {l:List Gt} {e:Int}
theorem dead_bad (h:4<=n)(hm:Mg l sh)(hl:l.length<=1000000)(hb:¬(VG t m l/\1<=e/\e<=t)):call gl tab n 20 [gAV t m f sh l,i64 e] []=some (.tup [i64 0,i64 1],[],[]):=by
 obtain⟨d,rfl⟩:=Nat.exists_eq_add_of_le' h
 have c:=deaf_bad (gl:=gl) (n:=d+3) (by omega) (f:=f) hm hl hb
 rw[call_go (fd:=fd20) rfl]
 simp(disch:=((fail_if_success (intro _));omega)) only[go_sem,simprocAttr,↓reduceIte,↓Nat.reduceEqDiff,xx,fd20,m20,c]
 rw[iter_to (S12 [] true .sc 1) 0 (by unfold LF;omega)]
 . rw[S12,mxU];simp(disch:=((fail_if_success (intro _));omega)) only[go_sem,simprocAttr,↓reduceIte,↓Nat.reduceEqDiff,xx]
 . rw[S12,mxU];simp(disch:=((fail_if_success (intro _));omega)) only[go_sem,simprocAttr,↓reduceIte,↓Nat.reduceEqDiff,xx];rfl
 . intro i hi;omega
 . rw[S12,mxU];simp(disch:=((fail_if_success (intro _));omega)) only[go_sem,simprocAttr,↓reduceIte,↓Nat.reduceEqDiff,xx]
theorem dead_ok (h:5<=n)(hm:Mg l sh)(hl:l.length<=1000000)(hv:VG t m l)(h1:1<=e)(h2:e<=t):call gl tab n 20 [gAV t m f sh l,i64 e] []=some (.tup [i64 (mxU (df e l) (df e l).length),i64 0],[],[]):=by
 obtain⟨d,rfl⟩:=Nat.exists_eq_add_of_le' h
 have c:=deaf_ok (gl:=gl) (n:=d+4) (by omega) (f:=f) hm hl hv h1 h2
 have hd:(df e l).length<=1000000:=by have:=List.length_filter_le (keep e) l;unfold df;omega
 generalize df e l=q at *
 have hL:=gs_length q
 have st:=fun j hj=>@step12 gl (d+4) q false 0 hd j hj
 simp only[L12,m20]at st
 rw[call_go (fd:=fd20) rfl]
 simp(disch:=((fail_if_success (intro _));omega)) only[go_sem,simprocAttr,↓reduceIte,↓Nat.reduceEqDiff,xx,fd20,m20,c,hL]
 rw[iter_to (S12 q false sG 0) q.length (by unfold LF;omega)]
 . rw[S12]
   generalize mxU q q.length=w at *
   simp(disch:=((fail_if_success (intro _));omega)) only[go_sem,simprocAttr,↓reduceIte,↓Nat.reduceEqDiff,xx,hL]
 . rw[S12,mxU];simp(disch:=((fail_if_success (intro _));omega)) only[go_sem,simprocAttr,↓reduceIte,↓Nat.reduceEqDiff,xx,hL]
 . exact st
 . rw[S12];simp(disch:=((fail_if_success (intro _));omega)) only[go_sem,simprocAttr,↓reduceIte,↓Nat.reduceEqDiff,xx,hL]
end
def ints (l:List Int):List AV:=l.map fun x=>i64 x
theorem ints_length (l:List Int):(ints l).length=l.length:=by simp[ints]
theorem ints_app (l:List Int)(x:Int):ints (l++[x])=ints l++[i64 x]:=by simp[ints]
theorem ints_noImms :∀(l:List Int),noImms (ints l)=true
 | []=>rfl
 | x::l=>by
   have:=ints_noImms l
   rw[ints,List.map_cons,noImms,<-ints,this];rfl
def wai (lo:Int)(l:List Gt):Nat->List Int
 | 0=>[]
 | j+1=>if lo<(gat l j).u then wai lo l j++[(gat l j).s]else wai lo l j
theorem wai_le (lo:Int)(l:List Gt):∀j,(wai lo l j).length<=j
 | 0=>Nat.le_refl _
 | j+1=>by
   have:=wai_le lo l j
   rw[wai];split
   . rw[List.length_append,List.length_singleton];omega
   . omega
def L13 :MC:=match m21 with| .seq _ (.seq _ (.seq _ (.seq _ (.seq (.seq _ (.block _ (.loop _ b))) _))))=>b|_=>.skip
def S13 (lo hi:Int)(l:List Gt)(j:Nat):St:=⟨[.set 28 (i64 j),.set 27 (i64 l.length),.set 26 (.lst false sG (gs l)),.set 10 (.sl 5010 [] 0 (wai lo l j).length),.set 5 (.ptr 5 [])],[(5,.fix (.st [.sc,.sc]) (.agg [i64 lo,i64 hi])),(5010,.grow .sc (ints (wai lo l j)))]⟩
theorem step13 {d:Nat}{l:List Gt}{lo hi:Int}(hl:l.length<=1000000)(j:Nat)(hj:j<l.length) :
  contK [.slot 5,.own 10 5010 .sc,.slot 26,.slot 27,.slot 28,.key 5] (evC gl (call gl tab d) L13 (S13 lo hi l j))=some (S13 lo hi l (j+1)):=by
 have hL:=gs_length l
 have hx:=gs_at hj
 have hle:=wai_le lo l j
 have hI:=ints_length (wai lo l j)
 have hT:List.take (wai lo l j).length (ints (wai lo l j))=ints (wai lo l j):=List.take_of_length_le (by omega)
 have hlim:(wai lo l j).length+1<=LIM:=by unfold LIM;omega
 have n1:=ints_noImms (wai lo l j)
 rw[S13,S13,wai]
 by_cases hk:lo<(gat l j).u
 . rw[if_pos hk,ints_app,List.length_append,List.length_singleton]
   generalize ints (wai lo l j)=q at *
   generalize (wai lo l j).length=i at *
   generalize gat l j=x at *
   simp(disch:=((fail_if_success (intro _));omega)) only[go_sem,simprocAttr,↓reduceIte,↓Nat.reduceEqDiff,xx,L13,m21,hL,hx,hI,hT,n1]
 . rw[if_neg hk]
   generalize ints (wai lo l j)=q at *
   generalize (wai lo l j).length=i at *
   generalize gat l j=x at *
   simp(disch:=((fail_if_success (intro _));omega)) only[go_sem,simprocAttr,↓reduceIte,↓Nat.reduceEqDiff,xx,L13,m21,hL,hx,hI,hT,n1]
section
variable {t m:Int} {f:Bool} {sh:Sh} {l:List Gt} {e lo hi:Int}
theorem wait_bad (h:5<=n)(hm:Mg l sh)(hl:l.length<=1000000)(hb:¬(VG t m l/\1<=e/\e<=t/\CV lo hi)):call gl tab n 21 [gAV t m f sh l,i64 e,.agg [i64 lo,i64 hi]] []=some (.tup [.lst true .sc [],i64 1],[],[]):=by
 obtain⟨d,rfl⟩:=Nat.exists_eq_add_of_le' h
 by_cases hg:VG t m l/\1<=e/\e<=t
 . have c:=deaf_ok (gl:=gl) (n:=d+4) (by omega) (f:=f) hm hl hg.1 hg.2.1 hg.2.2
   have c2:=@cvalid_at gl (d+4) (by omega) lo hi
   rw[decide_eq_false (fun hc=>hb ⟨hg.1,hg.2.1,hg.2.2,hc⟩)]at c2
   rw[call_go (fd:=fd21) rfl]
   simp(disch:=((fail_if_success (intro _));omega)) only[go_sem,simprocAttr,↓reduceIte,↓Nat.reduceEqDiff,xx,fd21,m21,c,c2]
 . have c:=deaf_bad (gl:=gl) (n:=d+4) (by omega) (f:=f) hm hl hg
   rw[call_go (fd:=fd21) rfl]
   simp(disch:=((fail_if_success (intro _));omega)) only[go_sem,simprocAttr,↓reduceIte,↓Nat.reduceEqDiff,xx,fd21,m21,c]
theorem wait_ok (h:5<=n)(hm:Mg l sh)(hl:l.length<=1000000)(hv:VG t m l)(h1:1<=e)(h2:e<=t)(hc:CV lo hi) :
  call gl tab n 21 [gAV t m f sh l,i64 e,.agg [i64 lo,i64 hi]] []=some (.tup [.lst false .sc (ints (wai lo (df e l) (df e l).length)),i64 0],[],[]):=by
 obtain⟨d,rfl⟩:=Nat.exists_eq_add_of_le' h
 have c:=deaf_ok (gl:=gl) (n:=d+4) (by omega) (f:=f) hm hl hv h1 h2
 have c2:=@cvalid_at gl (d+4) (by omega) lo hi
 rw[decide_eq_true hc]at c2
 have hd:(df e l).length<=1000000:=by have:=List.length_filter_le (keep e) l;unfold df;omega
 generalize df e l=q at *
 have hL:=gs_length q
 have st:=fun j hj=>@step13 gl (d+4) q lo hi hd j hj
 have hI:=ints_length (wai lo q q.length)
 have hT:List.take (wai lo q q.length).length (ints (wai lo q q.length))=ints (wai lo q q.length):=List.take_of_length_le (by omega)
 simp only[L13,m21]at st
 rw[call_go (fd:=fd21) rfl]
 simp(disch:=((fail_if_success (intro _));omega)) only[go_sem,simprocAttr,↓reduceIte,↓Nat.reduceEqDiff,xx,fd21,m21,c,c2,hL]
 rw[iter_to (S13 lo hi q) q.length (by unfold LF;omega)]
 . rw[S13]
   generalize wai lo q q.length=w at *
   simp(disch:=((fail_if_success (intro _));omega)) only[go_sem,simprocAttr,↓reduceIte,↓Nat.reduceEqDiff,xx,hL,hI,hT]
 . rw[S13,wai];simp(disch:=((fail_if_success (intro _));omega)) only[go_sem,simprocAttr,↓reduceIte,↓Nat.reduceEqDiff,xx,hL];rfl
 . exact st
 . rw[S13];simp(disch:=((fail_if_success (intro _));omega)) only[go_sem,simprocAttr,↓reduceIte,↓Nat.reduceEqDiff,xx,hL]
end
end Go.Proofs.S90.G
