/-
  Chapter 30: what is known of a site, as specified. No condition.
-/
import Derived.Test.YtjenmopgcpnklaaDoorW30L4
set_option linter.unusedVariables false
set_option linter.unusedSimpArgs false
set_option linter.unusedSectionVars false
namespace Go.Proofs.S30.G
open Go Go.Ev Go.Proofs
variable {gl :Gl} {n:Nat}
def L39 :MC:=match m39 with| .seq _ (.seq (.seq _ (.block _ (.loop _ b))) _)=>b|_=>.skip
def S39 (t m:Int)(f:Bool)(sh:Sh)(l:List Gt)(a:Int)(i:Nat):St :=
 ⟨[.set 5 (i64 i),.set 4 (.ptr 4 []),.set 2 (.ptr 2 []),.set 1 (i64 a)],[(4,.fix sG (.agg [.int .i64 0,.int .i64 0,.int .i64 0])),(2,.fix sG (gAV t m f sh l))]⟩
theorem rfind_at (h:1<=n){t m:Int}{f:Bool}{sh:Sh}{l:List Gt}(hm:Mg l sh)(hl:l.length<=1000000)(a:Int) :
  call gl tab n 39 [gAV t m f sh l,i64 a] []=some (gr (findG l a),[],[]):=by
 obtain⟨d,rfl⟩:=Nat.exists_eq_add_of_le' h
 have hL:=gs_length l
 have st:∀i,i<l.length->(gat l i).s≠a->contK [.slot 1,.slot 2,.slot 4,.slot 5,.key 2,.key 4] (evC gl (call gl tab d) L39 (S39 t m f sh l a i))=some (S39 t m f sh l a (i+1)):=fun i hi hn=>by
  obtain rfl:=hm.of hi
  have hx:=gs_at hi
  have hb:((gat l i).s==a)=false:=by rw[beq_eq_false_iff_ne];exact hn
  rw[S39,S39]
  generalize gat l i=x at *
  simp(disch:=((fail_if_success (intro _));omega)) only[go_sem,simprocAttr,↓reduceIte,↓Nat.reduceEqDiff,xx,L39,m39,hL,hx,hb]
 rcases first_fail (fun i=>(gat l i).s≠a) l.length with ha|⟨q,hq,hb,he⟩
 . rw[findG_no ha]
   have st2:=fun i hi=>st i hi (ha i hi)
   simp only[L39,m39]at st2
   rw[call_go (fd:=fd39) rfl]
   simp(disch:=((fail_if_success (intro _));omega)) only[go_sem,simprocAttr,↓reduceIte,↓Nat.reduceEqDiff,xx,fd39,m39,hL]
   rw[iter_to (S39 t m f sh l a) l.length (by unfold LF;omega)]
   . rw[S39];simp(disch:=((fail_if_success (intro _));omega)) only[go_sem,simprocAttr,↓reduceIte,↓Nat.reduceEqDiff,xx,hL]
   . rw[S39];simp(disch:=((fail_if_success (intro _));omega)) only[go_sem,simprocAttr,↓reduceIte,↓Nat.reduceEqDiff,xx,hL]
   . exact st2
   . rw[S39];simp(disch:=((fail_if_success (intro _));omega)) only[go_sem,simprocAttr,↓reduceIte,↓Nat.reduceEqDiff,xx,hL]
 . obtain rfl:=hm.of hq
   have hs:(gat l q).s=a:=Classical.not_not.1 he
   have hx:=gs_at hq
   have hf:findG l a=gat l q:=by
    have key:∀(l:List Gt) (q:Nat),q<l.length->(∀i,i<q->(gat l i).s≠a)->(gat l q).s=a->findG l a=gat l q:=by
     intro l
     induction l with
     | nil=>intro q hq;simp at hq
     | cons y l ih =>
       intro q hq hb hs
       cases q with
       | zero =>
         have hs:y.s=a:=hs
         rw[findG,if_pos hs];rfl
       | succ q =>
         have h0:y.s≠a:=hb 0 (by omega)
         rw[findG,if_neg h0]
         exact ih q (by simpa using hq) (fun i hi=>hb (i+1) (by omega)) hs
    exact key l q hq hb hs
   rw[hf]
   have st2:=fun i (hi:i<q)=>st i (by omega) (hb i hi)
   simp only[L39,m39]at st2
   have hb2:((gat l q).s==a)=true:=by rw[beq_iff_eq];exact hs
   rw[call_go (fd:=fd39) rfl]
   simp(disch:=((fail_if_success (intro _));omega)) only[go_sem,simprocAttr,↓reduceIte,↓Nat.reduceEqDiff,xx,fd39,m39,hL]
   rw[iter_to (S39 t m f sG l a) q (by unfold LF;omega)]
   . rw[S39]
     generalize gat l q=x at *
     simp(disch:=((fail_if_success (intro _));omega)) only[go_sem,simprocAttr,↓reduceIte,↓Nat.reduceEqDiff,xx,hL,hx,hb2]
   . rw[S39];simp(disch:=((fail_if_success (intro _));omega)) only[go_sem,simprocAttr,↓reduceIte,↓Nat.reduceEqDiff,xx,hL]
   . exact st2
   . rw[S39]
     generalize gat l q=x at *
     simp(disch:=((fail_if_success (intro _));omega)) only[go_sem,simprocAttr,↓reduceIte,↓Nat.reduceEqDiff,xx,hL,hx,hb2]
def stp1 (x:Gt)(r:List Gt×Bool)(y:Gt):List Gt×Bool:=if r.2=false/\x.s<=y.s then(r.1++[x],true)else r
def stp2 (x:Gt)(r:List Gt×Bool)(y:Gt):List Gt×Bool:=if y.s=x.s then r else(r.1++[y],r.2)
def stp (x:Gt)(r:List Gt×Bool)(y:Gt):List Gt×Bool:=stp2 x (stp1 x r y) y
theorem stp1_t (x y:Gt)(out:List Gt):stp1 x (out,true) y=(out,true):=if_neg (by simp)
theorem stp1_le {x y:Gt}(out:List Gt)(h:x.s<=y.s):stp1 x (out,false) y=(out++[x],true):=if_pos ⟨rfl,h⟩
theorem stp1_gt {x y:Gt}(out:List Gt)(h:y.s<x.s):stp1 x (out,false) y=(out,false):=if_neg (fun e=>by have:=e.2;omega)
theorem stp2_ne {x y:Gt}(r:List Gt×Bool)(h:y.s≠x.s):stp2 x r y=(r.1++[y],r.2):=if_neg h
theorem stp2_eq {x y:Gt}(r:List Gt×Bool)(h:y.s=x.s):stp2 x r y=r:=if_pos h
def fl (x:Gt)(l:List Gt)(j:Nat):List Gt×Bool:=(l.take j).foldl (stp x) ([],false)
theorem fl_zero (x:Gt)(l:List Gt):fl x l 0=([],false):=by rw[fl,List.take_zero];rfl
theorem fl_succ (x:Gt){l:List Gt}{j:Nat}(h:j<l.length):fl x l (j+1)=stp x (fl x l j) (gat l j):=by
 rw[fl,List.take_succ_eq_append_getElem h,List.foldl_append,<-gat_eq h];rfl
theorem stp_len (x:Gt)(r:List Gt×Bool)(y:Gt):(stp x r y).1.length<=r.1.length+2:=by
 unfold stp stp2 stp1
 split<;>split<;>simp
theorem fl_len (x:Gt)(l:List Gt):∀j,j<=l.length->(fl x l j).1.length<=2*j
 | 0,_=>by rw[fl_zero];exact Nat.le_refl _
 | j+1,h=>by
   have h1:=fl_len x l j (by omega)
   have h2:=stp_len x (fl x l j) (gat l j)
   rw[fl_succ x (by omega)];omega
theorem Srt.all :∀{l:List Gt} {a:Int},Srt a l->∀y∈l,a<y.s
 | [],a,h,y,hy=>by simp at hy
 | z::l,a,h,y,hy=>by
   simp at hy
   rcases hy with rfl|hy
   . exact h.1
   . have:=Srt.all h.2 y hy;have:=h.1;omega
theorem fold_t (x:Gt):∀(l out:List Gt),(∀y∈l,x.s<y.s)->l.foldl (stp x) (out,true)=(out++l,true)
 | [],out,h=>by simp
 | y::l,out,h=>by
   have h1:=h y (by simp)
   rw[List.foldl_cons]
   have e:stp x (out,true) y=(out++[y],true):=by rw[stp,stp1_t,stp2_ne _ (by omega)]
   rw[e,fold_t x l _ fun z hz=>h z (by simp[hz])];simp
def fin (x:Gt)(r:List Gt×Bool):List Gt:=if r.2=true then r.1 else r.1++[x]
theorem fold_f (x:Gt):∀(l:List Gt) (a:Int) (out:List Gt),Srt a l->fin x (l.foldl (stp x) (out,false))=out++putL l x
 | [],a,out,h=>by simp[fin,putL]
 | y::l,a,out,h=>by
   rw[List.foldl_cons,putL]
   by_cases h1:x.s<y.s
   . have e:stp x (out,false) y=(out++[x]++[y],true):=by rw[stp,stp1_le _ (by omega),stp2_ne _ (by omega)]
     rw[if_pos h1,e,fold_t x l _ fun z hz=>by have:=h.2.all z hz;omega]
     simp[fin]
   . rw[if_neg h1]
     by_cases h2:x.s=y.s
     . have e:stp x (out,false) y=(out++[x],true):=by rw[stp,stp1_le _ (by omega),stp2_eq _ h2.symm]
       rw[if_pos h2,e,fold_t x l _ fun z hz=>by have:=h.2.all z hz;omega]
       simp[fin]
     . have e:stp x (out,false) y=(out++[y],false):=by rw[stp,stp1_gt _ (by omega),stp2_ne _ (by omega)]
       rw[if_neg h2,e,fold_f x l y.s _ h.2];simp
theorem fl_all {t m:Int}{l:List Gt}(hv:VG t m l)(x:Gt):fin x (fl x l l.length)=putL l x:=by
 rw[fl,List.take_length,fold_f x l (-1) [] (vg_iff.1 hv).1.1];rfl
theorem gs_app (l:List Gt)(x:Gt):gs (l++[x])=gs l++[gr x]:=by simp[gs]
def L40 :MC:=match m40 with| .seq _ (.seq _ (.seq _ (.seq (.seq _ (.block _ (.loop _ b))) _)))=>b|_=>.skip
def S40 (t m:Int)(f:Bool)(sh:Sh)(l:List Gt)(x:Gt)(r:List Gt×Bool)(j:Nat):St :=
 ⟨[.set 7 (i64 j),.set 6 (.bool r.2),.set 5 (.sl 5005 [] 0 r.1.length),.set 4 (.ptr 4 []),.set 3 (.ptr 3 []),.set 2 (.ptr 2 [])],
   [(4,.fix sG (.agg [.int .i64 0,.int .i64 0,.lst true .sc []])),(3,.fix sG (gr x)),(2,.fix sG (gAV t m f sh l)),(5005,.grow sG (gs r.1))]⟩
theorem step40 {d:Nat}{t m:Int}{f:Bool}{l:List Gt}{x:Gt}(hl:l.length<=1000)(j:Nat)(hj:j<l.length) :
  contK [.slot 2,.slot 3,.slot 4,.own 5 5005 (.st [.sc,.sc,.sc]),.slot 6,.slot 7,.key 2,.key 3,.key 4] (evC gl (call gl tab d) L40 (S40 t m f sG l x (fl x l j) j))=some (S40 t m f sG l x (fl x l (j+1)) (j+1)):=by
 have hL:=gs_length l
 have hx:=gs_at hj
 have hle:=fl_len x l j (by omega)
 rw[fl_succ x hj]
 generalize fl x l j=r at *
 obtain⟨out,b⟩:=r
 simp only at hle
 have hO:=gs_length out
 have hT:List.take out.length (gs out)=gs out:=List.take_of_length_le (by omega)
 have n1:=gs_noImms out
 have hlim:out.length+2<=LIM:=by unfold LIM;omega
 have hT2:List.take (out.length+1) (gs out++[gr x])=gs out++[gr x]:=List.take_of_length_le (by simp[hO])
 generalize gat l j=y at *
 have b0:∀c:Bool,(y.s != x.s)=c->(y.s==x.s)= !c:=fun c h=>by rw[<-h];simp[bne]
 rw[stp]
 cases b with
 | true =>
   rw[stp1_t]
   by_cases h2:y.s=x.s
   . have hb:(y.s != x.s)=false:=by rw[h2];exact bne_self_eq_false _
     rw[stp2_eq _ h2,S40,S40]
     simp only
     simp(implicitDefEqProofs:=false) (disch:=((fail_if_success (intro _));omega)) only[go_sem,simprocAttr,↓reduceIte,↓Nat.reduceEqDiff,xx,L40,m40,hL,hx,hO,hT,n1,hb]
   . have hb:(y.s != x.s)=true:=by rw[bne_iff_ne];exact h2
     rw[stp2_ne _ h2,S40,S40]
     simp only
     rw[gs_app,List.length_append,List.length_singleton]
     simp(implicitDefEqProofs:=false) (disch:=((fail_if_success (intro _));omega)) only[go_sem,simprocAttr,↓reduceIte,↓Nat.reduceEqDiff,xx,L40,m40,hL,hx,hO,hT,n1,hb]
 | false =>
   by_cases h1:x.s<=y.s
   . rw[stp1_le _ h1]
     by_cases h2:y.s=x.s
     . have hb:(y.s != x.s)=false:=by rw[h2];exact bne_self_eq_false _
       rw[stp2_eq _ h2,S40,S40]
       simp only
       rw[gs_app,List.length_append,List.length_singleton]
       simp(implicitDefEqProofs:=false) (disch:=((fail_if_success (intro _));omega)) only[go_sem,simprocAttr,↓reduceIte,↓Nat.reduceEqDiff,xx,L40,m40,hL,hx,hO,hT,n1,hb]
     . have hb:(y.s != x.s)=true:=by rw[bne_iff_ne];exact h2
       rw[stp2_ne _ h2,S40,S40]
       simp only
       rw[gs_app,gs_app,List.length_append,List.length_append,List.length_singleton,List.length_singleton]
       simp(implicitDefEqProofs:=false) (disch:=((fail_if_success (intro _));omega)) only[go_sem,simprocAttr,↓reduceIte,↓Nat.reduceEqDiff,xx,L40,m40,hL,hx,hO,hT,n1,hb,hT2]
   . rw[stp1_gt _ (by omega)]
     have h2:y.s≠x.s:=by omega
     have hb:(y.s != x.s)=true:=by rw[bne_iff_ne];exact h2
     rw[stp2_ne _ h2,S40,S40]
     simp only
     rw[gs_app,List.length_append,List.length_singleton]
     simp(implicitDefEqProofs:=false) (disch:=((fail_if_success (intro _));omega)) only[go_sem,simprocAttr,↓reduceIte,↓Nat.reduceEqDiff,xx,L40,m40,hL,hx,hO,hT,n1,hb]
end Go.Proofs.S30.G
