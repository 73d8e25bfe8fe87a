/-
  Chapter 30: the specification's deadlines; equal grants. No condition.
-/
import Derived.Test.YtjenmopgcpnklaaDoorW30G21x3
set_option linter.unusedVariables false
set_option linter.unusedSimpArgs false
set_option linter.unusedSectionVars false
namespace Go.Proofs.S30.G
open Go Go.Ev Go.Proofs
variable {gl :Gl} {n:Nat}
theorem gat_app {L M:List Gt}{j:Nat}(h:j<L.length):gat (L++M) j=gat L j:=by
 rw[gat,gat,List.getD_eq_getElem?_getD,List.getD_eq_getElem?_getD,List.getElem?_append_left h]
theorem gat_last (L:List Gt)(x:Gt):gat (L++[x]) L.length=x:=by
 rw[gat,List.getD_eq_getElem?_getD,List.getElem?_append_right (Nat.le_refl _),Nat.sub_self];rfl
theorem mxU_pre (L M:List Gt):∀j,j<=L.length->mxU (L++M) j=mxU L j
 | 0,_=>rfl
 | j+1,h=>by rw[mxU,mxU,mxU_pre L M j (by omega),gat_app (by omega)]
theorem wai_pre (lo:Int)(L M:List Gt):∀j,j<=L.length->wai lo (L++M) j=wai lo L j
 | 0,_=>rfl
 | j+1,h=>by rw[wai,wai,wai_pre lo L M j (by omega),gat_app (by omega)]
def rmx (e:Int)(l:List Gt)(j:Nat):Int:=mxU (kp e l j) (kp e l j).length
def rwa (lo e:Int)(l:List Gt)(j:Nat):List Int:=wai lo (kp e l j) (kp e l j).length
theorem kp_0 (e:Int)(l:List Gt):kp e l 0=[]:=by rw[kp,List.take_zero];rfl
theorem rmx_0 (e:Int)(l:List Gt):rmx e l 0=0:=by rw[rmx,kp_0];rfl
theorem rwa_0 (lo e:Int)(l:List Gt):rwa lo e l 0=[]:=by rw[rwa,kp_0];rfl
theorem rmx_s (e:Int){l:List Gt}{j:Nat}(h:j<l.length):rmx e l (j+1)=if(gat l j).h<e then(if rmx e l j<(gat l j).u then(gat l j).u else rmx e l j)else rmx e l j:=by
 rw[rmx,kp_succ e h]
 by_cases hk:(gat l j).h<e
 . rw[if_pos hk,if_pos hk,List.length_append,List.length_singleton,mxU,mxU_pre _ _ _ (Nat.le_refl _),gat_last];rfl
 . rw[if_neg hk,if_neg hk];rfl
theorem rwa_s (lo e:Int){l:List Gt}{j:Nat}(h:j<l.length):rwa lo e l (j+1)=if(gat l j).h<e/\lo<(gat l j).u then rwa lo e l j++[(gat l j).s]else rwa lo e l j:=by
 rw[rwa,kp_succ e h]
 by_cases hk:(gat l j).h<e
 . rw[if_pos hk,List.length_append,List.length_singleton,wai,wai_pre _ _ _ _ (Nat.le_refl _),gat_last]
   by_cases h2:lo<(gat l j).u
   . rw[if_pos h2,if_pos ⟨hk,h2⟩];rfl
   . rw[if_neg h2,if_neg (fun h=>h2 h.2)];rfl
 . rw[if_neg hk,if_neg (fun h=>hk h.1)];rfl
theorem rwa_le (lo e:Int)(l:List Gt)(j:Nat):(rwa lo e l j).length<=j:=Nat.le_trans (wai_le _ _ _) (kp_le _ _ _)
def L18 :MC:=match m18 with| .seq _ (.seq _ (.seq _ (.seq (.seq _ (.block _ (.loop _ b))) _)))=>b|_=>.skip
def S18 (t m:Int)(f:Bool)(sh:Sh)(l:List Gt)(e:Int)(j:Nat):St :=
 ⟨[.set 6 (i64 j),.set 5 (i64 (rmx e l j)),.set 4 (.ptr 4 []),.set 2 (.ptr 2 []),.set 1 (i64 e)],[(4,.fix (.st [.sc,.sc]) (.agg [.int .i64 0,.int .i64 0])),(2,.fix sG (gAV t m f sh l))]⟩
theorem step18 {d:Nat}{t m e:Int}{f:Bool}{l:List Gt}(hl:l.length<=1000000)(j:Nat)(hj:j<l.length) :
  contK [.slot 1,.slot 2,.slot 4,.slot 5,.slot 6,.key 2,.key 4] (evC gl (call gl tab d) L18 (S18 t m f sG l e j))=some (S18 t m f sG l e (j+1)):=by
 have hL:=gs_length l
 have hx:=gs_at hj
 rw[S18,S18,rmx_s e hj]
 generalize rmx e l j=y at *
 by_cases hk:(gat l j).h<e
 . rw[if_pos hk]
   obtain⟨w,hw,w1,w2,w3⟩:=max_ex y (gat l j).u
   have e1:(if y<(gat l j).u then(gat l j).u else y)=w:=by split<;>omega
   rw[e1]
   generalize gat l j=x at *
   simp(disch:=((fail_if_success (intro _));omega)) only[go_sem,simprocAttr,↓reduceIte,↓Nat.reduceEqDiff,xx,L18,m18,hL,hx,hw]
 . rw[if_neg hk]
   generalize gat l j=x at *
   simp(disch:=((fail_if_success (intro _));omega)) only[go_sem,simprocAttr,↓reduceIte,↓Nat.reduceEqDiff,xx,L18,m18,hL,hx]
def L19 :MC:=match m19 with| .seq _ (.seq _ (.seq _ (.seq (.seq _ (.block _ (.loop _ b))) _)))=>b|_=>.skip
def S19 (t m:Int)(f:Bool)(sh:Sh)(l:List Gt)(e lo hi:Int)(j:Nat):St :=
 ⟨[.set 8 (i64 j),.set 7 (.sl 5007 [] 0 (rwa lo e l j).length),.set 6 (.ptr 6 []),.set 5 (.ptr 5 []),.set 3 (.ptr 3 []),.set 1 (i64 e)],
   [(6,.fix (.st [.sc,.sc]) (.agg [.lst true .sc [],.int .i64 0])),(5,.fix (.st [.sc,.sc]) (.agg [i64 lo,i64 hi])),(3,.fix sG (gAV t m f sh l)),(5007,.grow .sc (ints (rwa lo e l j)))]⟩
theorem step19 {d:Nat}{t m e lo hi:Int}{f:Bool}{l:List Gt}(hl:l.length<=1000000)(j:Nat)(hj:j<l.length) :
  contK [.slot 1,.slot 3,.slot 5,.slot 6,.own 7 5007 .sc,.slot 8,.key 3,.key 5,.key 6] (evC gl (call gl tab d) L19 (S19 t m f sG l e lo hi j))=some (S19 t m f sG l e lo hi (j+1)):=by
 have hL:=gs_length l
 have hx:=gs_at hj
 have hle:=rwa_le lo e l j
 have hI:=ints_length (rwa lo e l j)
 have hT:List.take (rwa lo e l j).length (ints (rwa lo e l j))=ints (rwa lo e l j):=List.take_of_length_le (by omega)
 have hlim:(rwa lo e l j).length+1<=LIM:=by unfold LIM;omega
 have n1:=ints_noImms (rwa lo e l j)
 rw[S19,S19,rwa_s lo e hj]
 by_cases hk:(gat l j).h<e
 . by_cases h2:lo<(gat l j).u
   . rw[if_pos ⟨hk,h2⟩,ints_app,List.length_append,List.length_singleton]
     generalize ints (rwa lo e l j)=q at *
     generalize (rwa lo e l j).length=i at *
     generalize gat l j=x at *
     simp(implicitDefEqProofs:=false) (disch:=((fail_if_success (intro _));omega)) only[go_sem,simprocAttr,↓reduceIte,↓Nat.reduceEqDiff,xx,L19,m19,hL,hx,hI,hT,n1]
   . rw[if_neg (fun h=>h2 h.2)]
     generalize ints (rwa lo e l j)=q at *
     generalize (rwa lo e l j).length=i at *
     generalize gat l j=x at *
     simp(implicitDefEqProofs:=false) (disch:=((fail_if_success (intro _));omega)) only[go_sem,simprocAttr,↓reduceIte,↓Nat.reduceEqDiff,xx,L19,m19,hL,hx,hI,hT,n1]
 . rw[if_neg (fun h=>hk h.1)]
   generalize ints (rwa lo e l j)=q at *
   generalize (rwa lo e l j).length=i at *
   generalize gat l j=x at *
   simp(implicitDefEqProofs:=false) (disch:=((fail_if_success (intro _));omega)) only[go_sem,simprocAttr,↓reduceIte,↓Nat.reduceEqDiff,xx,L19,m19,hL,hx,hI,hT,n1]
section
variable {t m:Int} {f:Bool} {sh:Sh} {l:List Gt} {e lo hi:Int}
theorem rdead_bad (h:4<=n)(hm:Mg l sh)(hl:l.length<=1000000)(hb:¬(VG t m l/\1<=e/\e<=t)):call gl tab n 18 [gAV t m f sh l,i64 e] []=some (.agg [i64 0,i64 1],[],[]):=by
 obtain⟨d,rfl⟩:=Nat.exists_eq_add_of_le' h
 have c:=@rvalid_at gl (d+3) (by omega) t m f sh l hm hl
 rw[call_go (fd:=fd18) rfl]
 by_cases hv:VG t m l
 case neg=>rw[decide_eq_false hv]at c;simp(disch:=((fail_if_success (intro _));omega)) only[go_sem,simprocAttr,↓reduceIte,↓Nat.reduceEqDiff,xx,fd18,m18,c]
 rw[decide_eq_true hv]at c
 by_cases h1:1<=e
 case neg=>simp(disch:=((fail_if_success (intro _));omega)) only[go_sem,simprocAttr,↓reduceIte,↓Nat.reduceEqDiff,xx,fd18,m18,c]
 have h2:¬e<=t:=fun h=>hb ⟨hv,h1,h⟩
 simp(disch:=((fail_if_success (intro _));omega)) only[go_sem,simprocAttr,↓reduceIte,↓Nat.reduceEqDiff,xx,fd18,m18,c]
theorem rdead_ok (h:4<=n)(hm:Mg l sh)(hl:l.length<=1000000)(hv:VG t m l)(h1:1<=e)(h2:e<=t):call gl tab n 18 [gAV t m f sh l,i64 e] []=some (.agg [i64 (mxU (df e l) (df e l).length),i64 0],[],[]):=by
 obtain⟨d,rfl⟩:=Nat.exists_eq_add_of_le' h
 have c:=@rvalid_at gl (d+3) (by omega) t m f sh l hm hl
 rw[decide_eq_true hv]at c
 have hL:=gs_length l
 have st:∀j,j<l.length->contK [.slot 1,.slot 2,.slot 4,.slot 5,.slot 6,.key 2,.key 4] (evC gl (call gl tab (d+3)) L18 (S18 t m f sh l e j))=some (S18 t m f sh l e (j+1)):=fun j hj=>by
  obtain rfl:=hm.of hj
  exact step18 hl j hj
 have e1:rmx e l l.length=mxU (df e l) (df e l).length:=by rw[rmx,kp_df]
 simp only[L18,m18]at st
 rw[call_go (fd:=fd18) rfl]
 simp(disch:=((fail_if_success (intro _));omega)) only[go_sem,simprocAttr,↓reduceIte,↓Nat.reduceEqDiff,xx,fd18,m18,c]
 rw[iter_to (S18 t m f sh l e) l.length (by unfold LF;omega)]
 . rw[S18,e1]
   generalize mxU (df e l) (df e l).length=w at *
   simp(disch:=((fail_if_success (intro _));omega)) only[go_sem,simprocAttr,↓reduceIte,↓Nat.reduceEqDiff,xx,hL]
 . rw[S18,rmx_0];simp(disch:=((fail_if_success (intro _));omega)) only[go_sem,simprocAttr,↓reduceIte,↓Nat.reduceEqDiff,xx,hL]
 . exact st
 . rw[S18];simp(disch:=((fail_if_success (intro _));omega)) only[go_sem,simprocAttr,↓reduceIte,↓Nat.reduceEqDiff,xx,hL]
theorem rwait_bad (h:4<=n)(hm:Mg l sh)(hl:l.length<=1000000)(hb:¬(VG t m l/\1<=e/\e<=t/\CV lo hi)):call gl tab n 19 [gAV t m f sh l,i64 e,.agg [i64 lo,i64 hi]] []=some (.agg [.lst true .sc [],i64 1],[],[]):=by
 obtain⟨d,rfl⟩:=Nat.exists_eq_add_of_le' h
 have c:=@rvalid_at gl (d+3) (by omega) t m f sh l hm hl
 have c2:=@rcvalid_at gl (d+3) (by omega) lo hi
 rw[call_go (fd:=fd19) rfl]
 by_cases hv:VG t m l
 case neg=>rw[decide_eq_false hv]at c;simp(disch:=((fail_if_success (intro _));omega)) only[go_sem,simprocAttr,↓reduceIte,↓Nat.reduceEqDiff,xx,fd19,m19,c]
 rw[decide_eq_true hv]at c
 by_cases h1:1<=e
 case neg=>simp(disch:=((fail_if_success (intro _));omega)) only[go_sem,simprocAttr,↓reduceIte,↓Nat.reduceEqDiff,xx,fd19,m19,c]
 by_cases h2:e<=t
 case neg=>simp(disch:=((fail_if_success (intro _));omega)) only[go_sem,simprocAttr,↓reduceIte,↓Nat.reduceEqDiff,xx,fd19,m19,c]
 rw[decide_eq_false (fun h=>hb ⟨hv,h1,h2,h⟩)]at c2
 simp(disch:=((fail_if_success (intro _));omega)) only[go_sem,simprocAttr,↓reduceIte,↓Nat.reduceEqDiff,xx,fd19,m19,c,c2]
theorem rwait_ok (h:4<=n)(hm:Mg l sh)(hl:l.length<=1000000)(hv:VG t m l)(h1:1<=e)(h2:e<=t)(hc:CV lo hi) :
  call gl tab n 19 [gAV t m f sh l,i64 e,.agg [i64 lo,i64 hi]] []=some (.agg [.lst false .sc (ints (wai lo (df e l) (df e l).length)),i64 0],[],[]):=by
 obtain⟨d,rfl⟩:=Nat.exists_eq_add_of_le' h
 have c:=@rvalid_at gl (d+3) (by omega) t m f sh l hm hl
 rw[decide_eq_true hv]at c
 have c2:=@rcvalid_at gl (d+3) (by omega) lo hi
 rw[decide_eq_true hc]at c2
 have hL:=gs_length l
 have st:∀j,j<l.length->contK [.slot 1,.slot 3,.slot 5,.slot 6,.own 7 5007 .sc,.slot 8,.key 3,.key 5,.key 6] (evC gl (call gl tab (d+3)) L19 (S19 t m f sh l e lo hi j))=some (S19 t m f sh l e lo hi (j+1)):=fun j hj=>by
  obtain rfl:=hm.of hj
  exact step19 hl j hj
 have e1:rwa lo e l l.length=wai lo (df e l) (df e l).length:=by rw[rwa,kp_df]
 have hI:=ints_length (rwa lo e l l.length)
 have hT:List.take (rwa lo e l l.length).length (ints (rwa lo e l l.length))=ints (rwa lo e l l.length):=List.take_of_length_le (by omega)
 have n1:=ints_noImms (rwa lo e l l.length)
 simp only[L19,m19]at st
 rw[call_go (fd:=fd19) rfl]
 simp(disch:=((fail_if_success (intro _));omega)) only[go_sem,simprocAttr,↓reduceIte,↓Nat.reduceEqDiff,xx,fd19,m19,c,c2]
 rw[iter_to (S19 t m f sh l e lo hi) l.length (by unfold LF;omega)]
 . rw[S19,<-e1]
   generalize ints (rwa lo e l l.length)=q at *
   generalize (rwa lo e l l.length).length=i at *
   simp(disch:=((fail_if_success (intro _));omega)) only[go_sem,simprocAttr,↓reduceIte,↓Nat.reduceEqDiff,xx,hL,hI,hT,n1]
 . rw[S19,rwa_0];simp(disch:=((fail_if_success (intro _));omega)) only[go_sem,simprocAttr,↓reduceIte,↓Nat.reduceEqDiff,xx,hL];rfl
 . exact st
 . rw[S19];simp(disch:=((fail_if_success (intro _));omega)) only[go_sem,simprocAttr,↓reduceIte,↓Nat.reduceEqDiff,xx,hL]
end
def L22 :MC:=match m22 with| .seq _ (.seq _ (.seq (.seq _ (.block _ (.loop _ b))) _))=>b|_=>.skip
def S22 (t m:Int)(f f':Bool)(sh sh':Sh)(l:List Gt)(j:Nat):St:=⟨[.set 5 (i64 j),.set 3 (.ptr 3 []),.set 2 (.ptr 2 [])],[(3,.fix sG (gAV t m f' sh' l)),(2,.fix sG (gAV t m f sh l))]⟩
theorem same_at (h:1<=n){t m:Int}{f f':Bool}{sh sh':Sh}{l:List Gt}(hm:Mg l sh)(hm':Mg l sh')(hl:l.length<=1000000):call gl tab n 22 [gAV t m f sh l,gAV t m f' sh' l] []=some (.bool true,[],[]):=by
 obtain⟨d,rfl⟩:=Nat.exists_eq_add_of_le' h
 have hL:=gs_length l
 have st:∀j,j<l.length->contK [.slot 2,.slot 3,.slot 5,.key 2,.key 3] (evC gl (call gl tab d) L22 (S22 t m f f' sh sh' l j))=some (S22 t m f f' sh sh' l (j+1)):=fun j hj=>by
  obtain rfl:=hm.of hj
  obtain rfl:=hm'.of hj
  have hx:=gs_at hj
  have e:=eqG (gat l j) (gat l j)
  rw[decide_eq_true rfl]at e
  rw[S22,S22]
  generalize gat l j=x at *
  simp(implicitDefEqProofs:=false) (disch:=((fail_if_success (intro _));omega)) only[go_sem,simprocAttr,↓reduceIte,↓Nat.reduceEqDiff,xx,L22,m22,hL,hx,e]
 have x1:(t != t)=false:=bne_self_eq_false _
 have x2:(m != m)=false:=bne_self_eq_false _
 simp only[L22,m22]at st
 rw[call_go (fd:=fd22) rfl]
 simp(disch:=((fail_if_success (intro _));omega)) only[go_sem,simprocAttr,↓reduceIte,↓Nat.reduceEqDiff,xx,fd22,m22,hL,x1,x2]
 rw[iter_to (S22 t m f f' sh sh' l) l.length (by unfold LF;omega)]
 . rw[S22];simp(disch:=((fail_if_success (intro _));omega)) only[go_sem,simprocAttr,↓reduceIte,↓Nat.reduceEqDiff,xx,hL]
 . rw[S22];simp(disch:=((fail_if_success (intro _));omega)) only[go_sem,simprocAttr,↓reduceIte,↓Nat.reduceEqDiff,xx,hL]
 . exact st
 . rw[S22];simp(disch:=((fail_if_success (intro _));omega)) only[go_sem,simprocAttr,↓reduceIte,↓Nat.reduceEqDiff,xx,hL]
end Go.Proofs.S30.G
