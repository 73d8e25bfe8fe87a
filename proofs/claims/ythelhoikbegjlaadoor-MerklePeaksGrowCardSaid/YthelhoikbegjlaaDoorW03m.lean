/-
  Chapter 3: where places are cut. No condition.
-/
import Derived.Test.YthelhoikbegjlaaDoorW03G14x8
set_option linter.unusedVariables false
set_option linter.unusedSimpArgs false
set_option linter.unusedSectionVars false
namespace Go.Proofs.S03
open Go Go.Ev Go.Proofs Go.Mk
open Go.Proofs.S03.H (GlK GlR)
variable {gl :Gl} {n:Nat}
def toI (ps:List Nat):List Int:=ps.map fun(x:Nat)=>(x:Int)
def pN (ps:List Nat):List AV:=pI (toI ps)
theorem toI_length (ps:List Nat):(toI ps).length=ps.length:=by simp[toI]
theorem pN_length (ps:List Nat):(pN ps).length=ps.length:=by simp[pN,pI,toI]
def nA (ps:List Nat)(i:Nat):Nat:=ps.getD i 0
theorem nA_eq {ps:List Nat}{i:Nat}(h:i<ps.length):nA ps i=ps[i]:=by simp[nA,h]
theorem iA_toI {ps:List Nat}{i:Nat}(h:i<ps.length):iA (toI ps) i=(nA ps i:Int):=by simp[iA,toI,nA,h]
theorem pN_at {ps:List Nat}{i:Nat}(h:i<ps.length):(pN ps)[i]? =some (.int .i64 (nA ps i:Int)):=by rw[pN,pI_at (by rw[toI_length];exact h),iA_toI h]
theorem pN_take (ps:List Nat)(k:Nat):List.take k (pN ps)=pN (ps.take k):=by simp[pN,pI,toI,List.map_take]
theorem pN_drop (ps:List Nat)(k:Nat):List.drop k (pN ps)=pN (ps.drop k):=by simp[pN,pI,toI,List.map_drop]
theorem pN_nil :pN []=[]:=rfl
theorem pN_all (ps:List Nat):List.take ps.length (pN ps)=pN ps:=by rw[<-pN_length];exact List.take_length
theorem pN_noImms (ps:List Nat):noImms (pN ps)=true:=pI_noImms _
theorem asc_toI {l:List Int}{N:Nat}(h:AscB l N):∃ps:List Nat,l=toI ps/\Asc ps 0 N:=by
 have key:∀i,i<=l.length->-1<=prv l i:=by
  intro i
  induction i with
  | zero=>intro _;rw[prv_zero];omega
  | succ i ih=>intro hi;have:=ih (by omega);have:=(h i (by omega)).1;rw[prv_succ];omega
 have nn:∀j,j<l.length->0<=iA l j:=fun j hj=>by have:=key j (by omega);have:=(h j hj).1;omega
 have hat:∀j,(hj:j<l.length)->l[j]=iA l j:=fun j hj=>by simp[iA,hj]
 refine⟨l.map Int.toNat,?_,?_,?_⟩
 . refine List.ext_getElem (by simp[toI]) fun j h1 h2=> ?_
   simp only[toI,List.getElem_map]
   have:=nn j h1
   rw[hat j h1];omega
 . rw[List.pairwise_iff_getElem]
   have mono:∀j i,i<j->j<l.length->iA l i<iA l j:=by
    intro j
    induction j with
    | zero=>intro i hi;omega
    | succ j ih =>
      intro i hi hj
      have h1:=(h (j+1) hj).1
      rw[prv_succ]at h1
      by_cases he:i=j
      . subst he;exact h1
      . have:=ih i (by omega) (by omega);omega
   intro i j hi hj hij
   simp only[List.length_map]at hi hj
   simp only[List.getElem_map]
   rw[hat i hi,hat j hj]
   have:=mono j i hij hj
   have:=nn i hi
   omega
 . intro x hx
   obtain⟨y,hy,rfl⟩:=List.mem_map.1 hx
   obtain⟨j,hj,rfl⟩:=List.getElem_of_mem hy
   rw[hat j hj]
   have:=nn j hj
   have:=(h j hj).2
   omega
theorem toI_asc {ps:List Nat}{N:Nat}(h:Asc ps 0 N):AscB (toI ps) N:=by
 intro j hj
 rw[toI_length]at hj
 rw[iA_toI hj,nA_eq hj]
 have hw:=h.wi ps[j] (List.getElem_mem hj)
 refine⟨?_,by omega⟩
 cases j with
 | zero=>rw[prv_zero];omega
 | succ j =>
   rw[prv_succ,iA_toI (by omega),nA_eq (by omega)]
   have:=List.pairwise_iff_getElem.1 h.so j (j+1) (by omega) hj (by omega)
   omega
theorem lows_cut {ps:List Nat}{a k:Nat}(hk:k<=ps.length)(h1:∀j,j<k->nA ps j<a)(h2:∀j,k<=j->j<ps.length->a<=nA ps j):lows ps a=ps.take k/\highs ps a=ps.drop k:=by
 have e:ps=ps.take k++ps.drop k:=(List.take_append_drop k ps).symm
 have a1:∀x∈ps.take k,x<a:=fun x hx=>by
  obtain⟨j,hj,rfl⟩:=List.getElem_of_mem hx
  rw[List.length_take]at hj
  rw[List.getElem_take,<-nA_eq (by omega)];exact h1 j (by omega)
 have a2:∀x∈ps.drop k,a<=x:=fun x hx=>by
  obtain⟨j,hj,rfl⟩:=List.getElem_of_mem hx
  rw[List.length_drop]at hj
  rw[List.getElem_drop,<-nA_eq (by omega)];exact h2 (k+j) (by omega) (by omega)
 constructor
 . conv=>lhs;rw[e]
   rw[lows,List.filter_append,List.filter_eq_self.2 (fun x hx=>decide_eq_true (a1 x hx)),List.filter_eq_nil_iff.2 (fun x hx=>by have:=a2 x hx;simp;omega),List.append_nil]
 . conv=>lhs;rw[e]
   rw[highs,List.filter_append,List.filter_eq_nil_iff.2 (fun x hx=>by have:=a1 x hx;simp;omega),List.filter_eq_self.2 (fun x hx=>decide_eq_true (a2 x hx)),List.nil_append]
theorem nan_at (h:1<=n)(x:Int):call gl tab n 81 [i64 x] []=some (.bool false,[],[]):=by
 obtain⟨d,rfl⟩:=Nat.exists_eq_add_of_le' h
 rw[call_go (fd:=fd81) rfl]
 simp(disch:=((fail_if_success (intro _));omega)) only[go_sem,simprocAttr,↓reduceIte,↓Nat.reduceEqDiff,xx,fd81,m81]
theorem nan2_at (h:1<=n)(x:Int):call gl tab n 90 [i64 x] []=some (.bool false,[],[]):=by
 obtain⟨d,rfl⟩:=Nat.exists_eq_add_of_le' h
 rw[call_go (fd:=fd90) rfl]
 simp(disch:=((fail_if_success (intro _));omega)) only[go_sem,simprocAttr,↓reduceIte,↓Nat.reduceEqDiff,xx,fd90,m90]
theorem less_at (h:2<=n)(x y:Int):call gl tab n 80 [i64 x,i64 y] []=some (.bool (decide (x<y)),[],[]):=by
 obtain⟨d,rfl⟩:=Nat.exists_eq_add_of_le' h
 have c1:=@nan2_at gl (d+1) (by omega) x
 have c2:=@nan2_at gl (d+1) (by omega) y
 rw[call_go (fd:=fd80) rfl]
 simp(disch:=((fail_if_success (intro _));omega)) only[go_sem,simprocAttr,↓reduceIte,↓Nat.reduceEqDiff,xx,fd80,m80,c1,c2]
def L67 :MC:=match m67 with| .seq _ (.seq _ (.seq _ (.seq (.block _ (.loop _ b)) _)))=>b|_=>.skip
def S67 (f:Bool)(sh:Sh)(ps:List Nat)(a:Nat)(x:Nat×Nat):St:=⟨[.set 8 (i64 x.2),.set 7 (i64 x.1),.set 6 (i64 ps.length),.set 1 (i64 a),.set 0 (.lst f sh (pN ps))],[]⟩
theorem half_i {x:Nat}(h:x<2^62):IntKind.wrap .i64 (((BitVec.ofInt 64 (x:Int))>>>(1:Nat)).toNat:Int)=((x/2:Nat):Int):=by
 have e:(BitVec.ofInt 64 (x:Int)).toNat=x:=by rw[BitVec.ofInt_natCast,BitVec.toNat_ofNat];omega
 rw[BitVec.toNat_ushiftRight,e,Nat.shiftRight_eq_div_pow,wrap_i64 (by omega) (by omega)]
theorem search_at (h:3<=n){f:Bool}{sh:Sh}{ps:List Nat}{a N:Nat}(hp:Asc ps 0 N)(hl:ps.length<=1000000)(ha:a<=1152921504606846976)(hN:N<=1152921504606846976)(hs:Sd ps sh .sc) :
  ∃b:Bool,call gl tab n 67 [.lst f sh (pN ps),i64 a] []=some (.tup [i64 (lows ps a).length,.bool b],[],[])/\lows ps a=ps.take (lows ps a).length/\highs ps a=ps.drop (lows ps a).length/\(lows ps a).length<=ps.length:=by
 obtain⟨d,rfl⟩:=Nat.exists_eq_add_of_le' h
 have hL:=pN_length ps
 have mono:∀i j,i<=j->j<ps.length->nA ps i<=nA ps j:=fun i j hij hj=>by
  rw[nA_eq hj,nA_eq (by omega)]
  by_cases he:i=j
  . subst he;exact Nat.le_refl _
  . exact Nat.le_of_lt (List.pairwise_iff_getElem.1 hp.so i j (by omega) hj (by omega))
 have hb:∀j,j<ps.length->nA ps j<N:=fun j hj=>by rw[nA_eq hj];have:=(hp.wi _ (List.getElem_mem hj)).2;omega
 obtain⟨⟨lo,hi⟩,⟨i1,i2,i3,i4⟩,hgo,hit⟩:=iter_meas (f:=evC gl (call gl tab (d+2)) L67) (ks:=[.slot 0,.slot 1,.slot 6,.slot 7,.slot 8]) (S67 f sh ps a)
  (fun x=>x.1<=x.2/\x.2<=ps.length/\(∀j,j<x.1->nA ps j<a)/\(∀j,x.2<=j->j<ps.length->a<=nA ps j)) (fun x=>x.2-x.1)
  (fun x=>if nA ps ((x.1+x.2)/2)<a then((x.1+x.2)/2+1,x.2)else(x.1,(x.1+x.2)/2)) (fun x=>decide (x.1<x.2)) (a0:=(0,ps.length)) (by unfold LF;simp;omega) ⟨by simp,by simp,fun j hj=>by simp at hj,fun j h1 h2=>by simp at h1;omega⟩
  (fun⟨x,y⟩ ⟨h1,h2,h3,h4⟩ hg=>by
    simp only[decide_eq_true_eq]at h1 h2 h3 h4 hg ⊢
    have hm:(x+y)/2<ps.length:=by omega
    have hx:=pN_at hm
    have hbm:=hb _ hm
    have c:=@less_at gl (d+2) (by omega) (nA ps ((x+y)/2)) a
    have eh:IntKind.wrap .i64 (((BitVec.ofInt 64 ((x:Int)+(y:Int)))>>>(1:Nat)).toNat:Int)=(((x+y)/2:Nat):Int):=by rw[show(x:Int)+(y:Int)=((x+y:Nat):Int) by omega];exact half_i (by omega)
    obtain rfl:sh= .sc:=by rcases hs with hs|hs;subst hs;simp at hm;exact hs
    by_cases hc:nA ps ((x+y)/2)<a
    . have hc2:((nA ps ((x+y)/2):Nat):Int)<(a:Int):=by omega
      refine⟨?_,?_⟩
      . rw[if_pos hc,S67,S67]
        generalize hq:(x+y)/2=q at *
        generalize nA ps q=z at *
        simp(disch:=((fail_if_success (intro _));omega)) only[go_sem,simprocAttr,↓reduceIte,↓Nat.reduceEqDiff,xx,L67,m67,hL,hx,c,eh]
      . rw[if_pos hc]
        refine⟨⟨by simp only;omega,h2,fun j hj=> ?_,h4⟩,by simp only;omega⟩
        simp only at hj
        exact Nat.lt_of_le_of_lt (mono j _ (by omega) hm) hc
    . have hc2:¬((nA ps ((x+y)/2):Nat):Int)<(a:Int):=by omega
      refine⟨?_,?_⟩
      . rw[if_neg hc,S67,S67]
        generalize hq:(x+y)/2=q at *
        generalize nA ps q=z at *
        simp(disch:=((fail_if_success (intro _));omega)) only[go_sem,simprocAttr,↓reduceIte,↓Nat.reduceEqDiff,xx,L67,m67,hL,hx,c,eh]
      . rw[if_neg hc]
        refine⟨⟨by simp only;omega,by simp only;omega,h3,fun j hj hj2=> ?_⟩,by simp only;omega⟩
        simp only at hj
        exact Nat.le_trans (Nat.le_of_not_lt hc) (mono _ j hj hj2))
  (fun⟨x,y⟩ ⟨h1,h2,h3,h4⟩ hg=>by
    simp only[decide_eq_false_iff_not]at h1 h2 hg
    rw[S67]
    simp(disch:=((fail_if_success (intro _));omega)) only[go_sem,simprocAttr,↓reduceIte,↓Nat.reduceEqDiff,xx,L67,m67,hL])
 simp only[decide_eq_false_iff_not]at i1 i2 i3 i4 hgo
 obtain rfl:lo=hi:=by omega
 obtain⟨e1,e2⟩:=lows_cut i2 i3 i4
 have e3:(lows ps a).length=lo:=by rw[e1,List.length_take];omega
 rw[e3]
 simp only[L67,m67]at hit
 have n1:=@nan_at gl (d+2) (by omega)
 by_cases hlt:lo<ps.length
 . have hx:=pN_at hlt
   have hbm:=hb _ hlt
   obtain rfl:sh= .sc:=by rcases hs with hs|hs;subst hs;simp at hlt;exact hs
   by_cases heq:nA ps lo=a
   . refine⟨true,?_,e1,e2,i2⟩
     rw[call_go (fd:=fd67) rfl]
     simp(disch:=((fail_if_success (intro _));omega)) only[go_sem,simprocAttr,↓reduceIte,↓Nat.reduceEqDiff,xx,fd67,m67,hL]
     rw[hit _ (by rw[S67];simp(disch:=((fail_if_success (intro _));omega)) only[go_sem,simprocAttr,↓reduceIte,↓Nat.reduceEqDiff,xx])]
     rw[S67]
     generalize nA ps lo=z at *
     subst heq
     simp(disch:=((fail_if_success (intro _));omega)) only[go_sem,simprocAttr,↓reduceIte,↓Nat.reduceEqDiff,xx,hL,hx,n1]
   . refine⟨false,?_,e1,e2,i2⟩
     rw[call_go (fd:=fd67) rfl]
     simp(disch:=((fail_if_success (intro _));omega)) only[go_sem,simprocAttr,↓reduceIte,↓Nat.reduceEqDiff,xx,fd67,m67,hL]
     rw[hit _ (by rw[S67];simp(disch:=((fail_if_success (intro _));omega)) only[go_sem,simprocAttr,↓reduceIte,↓Nat.reduceEqDiff,xx])]
     rw[S67]
     generalize nA ps lo=z at *
     simp(disch:=((fail_if_success (intro _));omega)) only[go_sem,simprocAttr,↓reduceIte,↓Nat.reduceEqDiff,xx,hL,hx,n1]
 . refine⟨false,?_,e1,e2,i2⟩
   rw[call_go (fd:=fd67) rfl]
   simp(disch:=((fail_if_success (intro _));omega)) only[go_sem,simprocAttr,↓reduceIte,↓Nat.reduceEqDiff,xx,fd67,m67,hL]
   rw[hit _ (by rw[S67];simp(disch:=((fail_if_success (intro _));omega)) only[go_sem,simprocAttr,↓reduceIte,↓Nat.reduceEqDiff,xx])]
   rw[S67]
   simp(disch:=((fail_if_success (intro _));omega)) only[go_sem,simprocAttr,↓reduceIte,↓Nat.reduceEqDiff,xx,hL]
theorem cut_at (h:4<=n){f:Bool}{sh:Sh}{ps:List Nat}{a N:Nat}(hp:Asc ps 0 N)(hl:ps.length<=1000000)(ha:a<=1152921504606846976)(hN:N<=1152921504606846976)(hs:Sd ps sh .sc) :
  ∃f',call gl tab n 44 [.lst f sh (pN ps),i64 a] []=some (.tup [.lst true sh (pN (lows ps a)),.lst f' sh (pN (highs ps a))],[],[]):=by
 obtain⟨d,rfl⟩:=Nat.exists_eq_add_of_le' h
 have hL:=pN_length ps
 have hT:=pN_all ps
 obtain⟨b,c,e1,e2,e3⟩:=@search_at gl (d+3) (by omega) f sh ps a N hp hl ha hN hs
 have hn1:=pN_noImms (lows ps a)
 have hn2:=pN_noImms (highs ps a)
 rw[e2]at hn2 ⊢
 rw[e1]at hn1
 generalize hk:(lows ps a).length=k at *
 rw[e1,<-pN_take,<-pN_drop]at *
 refine⟨f,?_⟩
 rw[call_go (fd:=fd44) rfl]
 rcases hs with hs|hs
 . subst hs
   obtain rfl:k=0:=by simpa using e3
   simp only[pN_nil]at c hL ⊢
   simp(disch:=((fail_if_success (intro _));omega)) only[go_sem,simprocAttr,↓reduceIte,↓Nat.reduceEqDiff,xx,fd44,m44,hL,c]
 . subst hs
   generalize ps.length=w at *
   simp(disch:=((fail_if_success (intro _));omega)) only[go_sem,simprocAttr,↓reduceIte,↓Nat.reduceEqDiff,xx,fd44,m44,hL,hT,c,hn1,hn2]
end Go.Proofs.S03
