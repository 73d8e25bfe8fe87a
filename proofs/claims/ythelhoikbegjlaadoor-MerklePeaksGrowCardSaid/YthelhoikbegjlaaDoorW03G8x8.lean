/-
  Hash trees, in plain terms: several elements, peaks, collisions. No condition.
-/
import Derived.Test.YthelhoikbegjlaaDoorW03G7x8
set_option linter.unusedVariables false
set_option linter.unusedSimpArgs false
set_option linter.unusedSectionVars false
namespace Go.Mk
variable {D :Type} {node:D->D->D} {emp:D}
structure Asc (ps:List Nat)(a n:Nat):Prop where
 so:ps.Pairwise (· < ·)
 wi:∀x∈ps,a<=x/\x<a+n
theorem Asc.lows {ps:List Nat}{a n k:Nat}(h:Asc ps a n)(hk:k<=n):Asc (lows ps (a+k)) a k :=
 ⟨h.so.filter _,fun x hx=>by
   simp only[Mk.lows,List.mem_filter,decide_eq_true_eq]at hx
   exact⟨(h.wi x hx.1).1,hx.2⟩⟩
theorem Asc.highs {ps:List Nat}{a n k:Nat}(h:Asc ps a n)(hk:k<=n):Asc (highs ps (a+k)) (a+k) (n-k) :=
 ⟨h.so.filter _,fun x hx=>by
   simp only[Mk.highs,List.mem_filter,decide_eq_true_eq]at hx
   have:=h.wi x hx.1
   exact⟨hx.2,by omega⟩⟩
theorem split_ps {ps:List Nat}(h:ps.Pairwise (· < ·))(c:Nat):ps=lows ps c++highs ps c:=by
 induction ps with
 | nil=>rfl
 | cons x l ih =>
   rw[List.pairwise_cons]at h
   by_cases hx:x<c
   . have h1:lows (x::l) c=x::lows l c:=by simp[lows,hx]
     have h2:highs (x::l) c=highs l c:=by simp only[highs,List.filter_cons];rw[if_neg (by simp;omega)]
     rw[h1,h2,List.cons_append,<-ih h.2]
   . have h1:lows (x::l) c=[]:=by
      simp only[lows,List.filter_eq_nil_iff,decide_eq_true_eq]
      intro y hy
      rcases List.mem_cons.1 hy with rfl|hy
      . exact hx
      . have:=h.1 y hy;omega
     have h2:highs (x::l) c=x::l:=by
      simp only[highs,List.filter_eq_self,decide_eq_true_eq]
      intro y hy
      rcases List.mem_cons.1 hy with rfl|hy
      . omega
      . have:=h.1 y hy;omega
     rw[h1,h2,List.nil_append]
theorem asc_one {ps:List Nat}{a n:Nat}(h:Asc ps a n)(hn:n<2)(hp:ps≠[]):ps=[a]:=by
 match ps,hp with
 | [x],_=>have:=h.wi x (by simp);have:x=a:=by omega
          rw[this]
 | x::y::l,_ =>
   have h1:=h.wi x (by simp)
   have h2:=h.wi y (by simp)
   have h3:=List.rel_of_pairwise_cons h.so (show y∈y::l by simp)
   omega
theorem cntW_ok :∀(q n a:Nat) (ps:List Nat),n<=q->1<=n->Asc ps a n->(cntW a n ps).1=ps.length
 | 0,n,a,ps,hq,h1,h=>by omega
 | q+1,n,a,ps,hq,h1,h=>by
   by_cases hp:ps=[]
   . subst hp;rw[cntW_nil];rfl
   by_cases h2:2<=n
   . have hs:=spl_lt h2
     have hsp:=spl_pos n
     rw[cntW_two hp h2]
     have e1:=cntW_ok q (spl n) a _ (by omega) hsp (h.lows (Nat.le_of_lt hs))
     have e2:=cntW_ok q (n-spl n) (a+spl n) _ (by omega) (by omega) (h.highs (Nat.le_of_lt hs))
     have e3:=congrArg List.length (split_ps h.so (a+spl n))
     rw[List.length_append]at e3
     simp only
     omega
   . rw[cntW_one hp (by omega),asc_one h (by omega) hp];rfl
theorem mny_ok (z:D):∀(q:Nat) (l:List D) (a:Nat) (ps:List Nat) (fs r:List D),l.length<=q->1<=l.length->Asc ps a l.length ->
  (mny node emp l a ps).length=(cntW a l.length ps).2/\wlk node z a l.length ps (ps.map (fun x=>l.getD (x-a) emp)++fs) (mny node emp l a ps++r)=(rt node emp l,fs,r)
 | 0,l,a,ps,fs,r,hq,h1,h=>by omega
 | q+1,l,a,ps,fs,r,hq,h1,h=>by
   by_cases hp:ps=[]
   . subst hp
     rw[mny_nil,cntW_nil,wlk_nil]
     exact⟨rfl,rfl⟩
   by_cases h2:2<=l.length
   . have hs:=spl_lt h2
     have hsp:=spl_pos l.length
     have ht:(l.take (spl l.length)).length=spl l.length:=by rw[List.length_take];omega
     have hd:(l.drop (spl l.length)).length=l.length-spl l.length:=List.length_drop
     have hlo:=h.lows (Nat.le_of_lt hs)
     have hhi:=h.highs (Nat.le_of_lt hs)
     obtain⟨b1,b2⟩:=mny_ok z q (l.drop (spl l.length)) (a+spl l.length) (highs ps (a+spl l.length)) fs r (by omega) (by omega) (by rw[hd];exact hhi)
     obtain⟨a1,a2⟩:=mny_ok z q (l.take (spl l.length)) a (lows ps (a+spl l.length)) ((highs ps (a+spl l.length)).map (fun x=>(l.drop (spl l.length)).getD (x-(a+spl l.length)) emp)++fs) (mny node emp (l.drop (spl l.length)) (a+spl l.length) (highs ps (a+spl l.length))++r) (by omega) (by omega) (by rw[ht];exact hlo)
     rw[hd]at b1 b2
     rw[ht]at a1 a2
     have e1:ps.map (fun x=>l.getD (x-a) emp)++fs=(lows ps (a+spl l.length)).map (fun x=>(l.take (spl l.length)).getD (x-a) emp)++((highs ps (a+spl l.length)).map (fun x=>(l.drop (spl l.length)).getD (x-(a+spl l.length)) emp)++fs):=by
      rw[<-List.append_assoc]
      congr 1
      conv=>lhs;rw[split_ps h.so (a+spl l.length),List.map_append]
      congr 1
      . refine List.map_congr_left fun x hx=> ?_
        have:=hlo.wi x hx
        rw[List.getD_eq_getElem?_getD,List.getD_eq_getElem?_getD,List.getElem?_take,if_pos (by omega)]
      . refine List.map_congr_left fun x hx=> ?_
        have:=hhi.wi x hx
        rw[List.getD_eq_getElem?_getD,List.getD_eq_getElem?_getD,List.getElem?_drop,show spl l.length+(x-(a+spl l.length))=x-a by omega]
     rw[mny_two hp h2,cntW_two hp h2,wlk_two hp h2,List.append_assoc,e1,a2,rt_two h2,List.length_append]
     simp only
     rw[b2]
     exact⟨by omega,rfl⟩
   . have hps:=asc_one h (by omega) hp
     rw[mny_one hp (by omega),cntW_one hp (by omega),wlk_one hp (by omega),rt_len1 (by omega),hps]
     refine⟨rfl,?_⟩
     obtain⟨d,rfl⟩:=List.length_eq_one_iff.1 (show l.length=1 by omega)
     simp
def stp (node:D->D->D)(z leaf:D)(i n:Nat)(p:List D):List (D×D) :=
 if h:2<=n then
  if i<spl n then stp node z leaf i (spl n) p.dropLast++[(cl node z leaf i (spl n) p.dropLast,p.getLastD z)]
  else stp node z leaf (i-spl n) (n-spl n) p.dropLast++[(p.getLastD z,cl node z leaf (i-spl n) (n-spl n) p.dropLast)]
 else []
termination_by n
decreasing_by
 . exact spl_lt h
 . have:=spl_pos n;omega
theorem stp_one {z leaf:D}{i n:Nat}{p:List D}(h:n<2):stp node z leaf i n p=[]:=by rw[stp,dif_neg (by omega)]
theorem stp_lo {z leaf:D}{i n:Nat}{p:List D}(h:2<=n)(hi:i<spl n):stp node z leaf i n p=stp node z leaf i (spl n) p.dropLast++[(cl node z leaf i (spl n) p.dropLast,p.getLastD z)]:=by rw[stp,dif_pos h,if_pos hi]
theorem stp_hi {z leaf:D}{i n:Nat}{p:List D}(h:2<=n)(hi:¬i<spl n):stp node z leaf i n p=stp node z leaf (i-spl n) (n-spl n) p.dropLast++[(p.getLastD z,cl node z leaf (i-spl n) (n-spl n) p.dropLast)]:=by rw[stp,dif_pos h,if_neg hi]
theorem stp_len (z leaf:D):∀(q i n:Nat) (p:List D),n<=q->(stp node z leaf i n p).length=dep i n
 | 0,i,n,p,hq=>by rw[stp_one (by omega),dep_one (by omega)];rfl
 | q+1,i,n,p,hq=>by
   by_cases h2:2<=n
   . have hs:=spl_lt h2
     have hp:=spl_pos n
     by_cases hi:i<spl n
     . rw[stp_lo h2 hi,dep_lo h2 hi,List.length_append,stp_len z leaf q i (spl n) _ (by omega)];rfl
     . rw[stp_hi h2 hi,dep_hi h2 hi,List.length_append,stp_len z leaf q (i-spl n) (n-spl n) _ (by omega)];rfl
   . rw[stp_one (by omega),dep_one (by omega)];rfl
theorem collide (z a b:D)(hab:a≠b):∀(q i n:Nat) (p r:List D),n<=q->cl node z a i n p=cl node z b i n r ->
  ∃k,k<dep i n/\∃x y,(stp node z a i n p)[k]? =some x/\(stp node z b i n r)[k]? =some y/\x≠y/\node x.1 x.2=node y.1 y.2
 | 0,i,n,p,r,hq,h=>by rw[cl_one (by omega),cl_one (by omega)]at h;exact absurd h hab
 | q+1,i,n,p,r,hq,h=>by
   by_cases h2:2<=n
   case neg=>rw[cl_one (by omega),cl_one (by omega)]at h;exact absurd h hab
   have hs:=spl_lt h2
   have hp:=spl_pos n
   by_cases hi:i<spl n
   . have l1:=stp_len (node:=node) z a q i (spl n) p.dropLast (by omega)
     have l2:=stp_len (node:=node) z b q i (spl n) r.dropLast (by omega)
     rw[stp_lo h2 hi,stp_lo h2 hi,dep_lo h2 hi]
     rw[cl_lo h2 hi,cl_lo h2 hi]at h
     by_cases e:cl node z a i (spl n) p.dropLast=cl node z b i (spl n) r.dropLast
     . obtain⟨k,hk,x,y,h3,h4,h5,h6⟩:=collide z a b hab q i (spl n) p.dropLast r.dropLast (by omega) e
       exact⟨k,by omega,x,y,by rw[List.getElem?_append_left (by omega)];exact h3,by rw[List.getElem?_append_left (by omega)];exact h4,h5,h6⟩
     . exact⟨dep i (spl n),by omega,_,_,by rw[List.getElem?_append_right (by omega),l1,Nat.sub_self];rfl,by rw[List.getElem?_append_right (by omega),l2,Nat.sub_self];rfl,fun h7=>e (Prod.mk.inj h7).1,h⟩
   . have l1:=stp_len (node:=node) z a q (i-spl n) (n-spl n) p.dropLast (by omega)
     have l2:=stp_len (node:=node) z b q (i-spl n) (n-spl n) r.dropLast (by omega)
     rw[stp_hi h2 hi,stp_hi h2 hi,dep_hi h2 hi]
     rw[cl_hi h2 hi,cl_hi h2 hi]at h
     by_cases e:cl node z a (i-spl n) (n-spl n) p.dropLast=cl node z b (i-spl n) (n-spl n) r.dropLast
     . obtain⟨k,hk,x,y,h3,h4,h5,h6⟩:=collide z a b hab q (i-spl n) (n-spl n) p.dropLast r.dropLast (by omega) e
       exact⟨k,by omega,x,y,by rw[List.getElem?_append_left (by omega)];exact h3,by rw[List.getElem?_append_left (by omega)];exact h4,h5,h6⟩
     . exact⟨dep (i-spl n) (n-spl n),by omega,_,_,by rw[List.getElem?_append_right (by omega),l1,Nat.sub_self];rfl,by rw[List.getElem?_append_right (by omega),l2,Nat.sub_self];rfl,fun h7=>e (Prod.mk.inj h7).2,h⟩
end Go.Mk
namespace Go.Mk
def pcn (n:Nat):Nat:=if h:n=0 then 0 else n%2+pcn (n/2)
def tr1 (n:Nat):Nat:=if h:n%2=1 then tr1 (n/2)+1 else 0
termination_by n
decreasing_by omega
theorem pcn_0 :pcn 0=0:=by rw[pcn,dif_pos rfl]
theorem pcn_s {n:Nat}(h:n≠0):pcn n=n%2+pcn (n/2):=by rw[pcn,dif_neg h]
theorem pcn_two (n:Nat):pcn n=n%2+pcn (n/2):=by
 by_cases h:n=0
 . subst h;simp[pcn_0]
 . exact pcn_s h
theorem tr1_o {n:Nat}(h:n%2=1):tr1 n=tr1 (n/2)+1:=by rw[tr1,dif_pos h]
theorem tr1_e {n:Nat}(h:n%2=0):tr1 n=0:=by rw[tr1,dif_neg (by omega)]
theorem pcn_high :∀(k r:Nat),r<2^k->pcn (2^k+r)=1+pcn r
 | 0,r,h=>by
   obtain rfl:r=0:=by simp at h;omega
   rw[pcn_two,pcn_0]
 | k+1,r,h=>by
   have e:2^(k+1)=2*2^k:=by rw[Nat.pow_succ];omega
   have ih:=pcn_high k (r/2) (by omega)
   rw[pcn_two (2^(k+1)+r),pcn_two r,show(2^(k+1)+r)%2=r%2 by omega,show(2^(k+1)+r)/2=2^k+r/2 by omega,ih]
   omega
theorem tr1_le :∀(q n:Nat),n<=q->tr1 n<=pcn n
 | 0,n,h=>by
   obtain rfl:n=0:=by omega
   rw[tr1_e rfl];exact Nat.zero_le _
 | q+1,n,h=>by
   by_cases ho:n%2=1
   . rw[tr1_o ho,pcn_two,ho]
     have:=tr1_le q (n/2) (by omega)
     omega
   . rw[tr1_e (by omega)];exact Nat.zero_le _
theorem tr1_high :∀(k r:Nat),r+1<2^k->tr1 (2^k+r)=tr1 r
 | 0,r,h=>by simp at h
 | k+1,r,h=>by
   have e:2^(k+1)=2*2^k:=by rw[Nat.pow_succ];omega
   by_cases ho:r%2=1
   . rw[tr1_o (show(2^(k+1)+r)%2=1 by omega),tr1_o ho,show(2^(k+1)+r)/2=2^k+r/2 by omega,tr1_high k (r/2) (by omega)]
   . rw[tr1_e (show(2^(k+1)+r)%2=0 by omega),tr1_e (by omega)]
theorem tr1_full :∀(k:Nat),tr1 (2^k-1)=k/\pcn (2^k-1)=k
 | 0=>by rw[tr1_e (by simp)];exact⟨rfl,pcn_0⟩
 | k+1=>by
   have e:2^(k+1)=2*2^k:=by rw[Nat.pow_succ];omega
   have hp:=Nat.two_pow_pos k
   obtain⟨h1,h2⟩:=tr1_full k
   rw[tr1_o (by omega),pcn_two,show(2^(k+1)-1)/2=2^k-1 by omega,h1,h2]
   exact⟨rfl,by omega⟩
section
variable {D :Type} (node:D->D->D) (emp:D)
def gp (n:Nat):Nat:=2^n.log2
theorem gp_le {n:Nat}(h:n≠0):gp n<=n:=Nat.log2_self_le h
theorem gp_pos (n:Nat):0<gp n:=Nat.two_pow_pos _
theorem gp_lt (n:Nat):n<2*gp n:=by
 have:=@Nat.lt_log2_self n
 unfold gp
 rw[Nat.pow_succ]at this
 omega
theorem gp_unique {n k:Nat}(h1:2^k<=n)(h2:n<2^(k+1)):gp n=2^k:=by
 unfold gp
 congr 1
 rw[Nat.log2_eq_iff (by have:=Nat.two_pow_pos k;omega)]
 exact⟨h1,h2⟩
def pk (l:List D):List D :=
 if h:l.length=0 then []else rt node emp (l.take (gp l.length))::pk (l.drop (gp l.length))
termination_by l.length
decreasing_by
 have:=gp_pos l.length;rw[List.length_drop];omega
def tpF :List D->D
 | []=>emp
 | [d]=>d
 | d::e::l=>node d (tpF (e::l))
variable {node emp}
theorem pk_nil :pk node emp ([]:List D)=[]:=by rw[pk,dif_pos (show([]:List D).length=0 from rfl)]
theorem pk_s {l:List D}(h:l.length≠0):pk node emp l=rt node emp (l.take (gp l.length))::pk node emp (l.drop (gp l.length)):=by rw[pk,dif_neg h]
theorem pk_ne {l:List D}(h:l.length≠0):∃d r,pk node emp l=d::r:=⟨_,_,pk_s h⟩
theorem pk_full {l:List D}{k:Nat}(h:l.length=2^k):pk node emp l=[rt node emp l]:=by
 have hp:=Nat.two_pow_pos k
 have hg:gp l.length=l.length:=by rw[h];exact gp_unique (Nat.le_refl _) (by rw[Nat.pow_succ];omega)
 rw[pk_s (by omega),hg,List.take_length,List.drop_length,pk_nil]
theorem pk_len :∀(q:Nat) (l:List D),l.length<=q->(pk node emp l).length=pcn l.length
 | 0,l,h=>by
   obtain rfl:l=[]:=List.length_eq_zero_iff.1 (by omega)
   rw[pk_nil];exact pcn_0.symm
 | q+1,l,h=>by
   by_cases h0:l.length=0
   . obtain rfl:l=[]:=List.length_eq_zero_iff.1 h0
     rw[pk_nil];exact pcn_0.symm
   have hle:=gp_le h0
   have hlt:=gp_lt l.length
   have hp:=gp_pos l.length
   rw[pk_s h0,List.length_cons,pk_len q _ (by rw[List.length_drop];omega),List.length_drop]
   have:=pcn_high l.length.log2 (l.length-gp l.length) (by unfold gp at *;omega)
   rw[show 2^l.length.log2=gp l.length from rfl,Nat.add_sub_cancel' hle]at this
   omega
theorem tp_pk :∀(q:Nat) (l:List D),l.length<=q->tpF node emp (pk node emp l)=rt node emp l
 | 0,l,h=>by
   obtain rfl:l=[]:=List.length_eq_zero_iff.1 (by omega)
   rw[pk_nil,rt_nil];rfl
 | q+1,l,h=>by
   by_cases h0:l.length=0
   . obtain rfl:l=[]:=List.length_eq_zero_iff.1 h0
     rw[pk_nil,rt_nil];rfl
   have hle:=gp_le h0
   have hlt:=gp_lt l.length
   have hp:=gp_pos l.length
   by_cases he:gp l.length=l.length
   . rw[pk_s h0,he,List.take_length,List.drop_length,pk_nil];rfl
   . have hs:spl l.length=gp l.length:=spl_unique (k:=l.length.log2) (by unfold gp at *;omega) (by rw[Nat.pow_succ];unfold gp at *;omega)
     have hd:(l.drop (gp l.length)).length≠0:=by rw[List.length_drop];omega
     have ih:=tp_pk q (l.drop (gp l.length)) (by rw[List.length_drop];omega)
     have er:rt node emp l=node (rt node emp (l.take (gp l.length))) (rt node emp (l.drop (gp l.length))):=by rw[rt_two (l:=l) (by omega),hs]
     rw[pk_s h0,er,<-ih]
     obtain⟨d,r,e⟩:=pk_ne (node:=node) (emp:=emp) hd
     rw[e];rfl
variable (node)
def jn (z:D)(q:List D×D):List D×D:=(q.1.dropLast,node (q.1.getLastD z) q.2)
def jns (z:D):Nat->List D×D->List D×D
 | 0,q=>q
 | t+1,q=>jns z t (jn node z q)
variable {node}
theorem jns_add (z:D):∀(t s:Nat) (q:List D×D),jns node z (t+s) q=jns node z s (jns node z t q)
 | 0,s,q=>by rw[Nat.zero_add];rfl
 | t+1,s,q=>by rw[show t+1+s=(t+s)+1 by omega,jns,jns,jns_add z t s]
theorem jns_cons (z x:D):∀(t:Nat) (l:List D) (d:D),t<=l.length->jns node z t (x::l,d)=(x::(jns node z t (l,d)).1,(jns node z t (l,d)).2)
 | 0,l,d,h=>rfl
 | t+1,l,d,h=>by
   have hl:l≠[]:=by rintro rfl;simp at h
   have e:jn node z (x::l,d)=(x::(jn node z (l,d)).1,(jn node z (l,d)).2):=by
    unfold jn
    simp only
    rw[List.dropLast_cons_of_ne_nil hl]
    congr 2
    cases l with
    | nil=>exact absurd rfl hl
    | cons y l=>simp
   rw[jns,jns,e,jns_cons z x t _ _ (by unfold jn;rw[List.length_dropLast];show t<=l.length-1;omega)]
theorem ap_pk (z:D):∀(q:Nat) (l:List D) (d:D),l.length<=q->(jns node z (tr1 l.length) (pk node emp l,d)).1++[(jns node z (tr1 l.length) (pk node emp l,d)).2]=pk node emp (l++[d])
 | 0,l,d,h=>by
   obtain rfl:l=[]:=List.length_eq_zero_iff.1 (by omega)
   rw[pk_nil,tr1_e rfl,pk_full (k:=0) (by simp)]
   simp[jns,rt_one]
 | q+1,l,d,h=>by
   by_cases h0:l.length=0
   . obtain rfl:l=[]:=List.length_eq_zero_iff.1 h0
     rw[pk_nil,tr1_e rfl,pk_full (k:=0) (by simp)]
     simp[jns,rt_one]
   have hle:=gp_le h0
   have hlt:=gp_lt l.length
   have hp:=gp_pos l.length
   have hd:(l.drop (gp l.length)).length=l.length-gp l.length:=List.length_drop
   have ih:=ap_pk z q (l.drop (gp l.length)) d (by omega)
   have hpl:=pk_len (node:=node) (emp:=emp) q (l.drop (gp l.length)) (by omega)
   have htl:=tr1_le _ (l.length-gp l.length) (Nat.le_refl _)
   have hla:(l++[d]).length=l.length+1:=by simp
   rw[hd]at ih hpl
   have htk:(l++[d]).take (gp l.length)=l.take (gp l.length):=List.take_append_of_le_length hle
   have hdr:(l++[d]).drop (gp l.length)=l.drop (gp l.length)++[d]:=List.drop_append_of_le_length hle
   by_cases hf:l.length+1=2*gp l.length
   ·
    have e1:l.length-gp l.length=2^l.length.log2-1:=by unfold gp at *;omega
    have e2:l.length=2^(l.length.log2+1)-1:=by rw[Nat.pow_succ];unfold gp at *;omega
    have t1:=(tr1_full l.length.log2).1
    have t2:=(tr1_full (l.length.log2+1)).1
    rw[<-e1]at t1
    rw[<-e2]at t2
    rw[t1]at ih htl
    have hB:(l.drop (gp l.length)++[d]).length=2^l.length.log2:=by rw[List.length_append,hd];unfold gp at *;simp;omega
    rw[pk_full hB]at ih
    have hA:(l++[d]).length=2^(l.length.log2+1):=by rw[hla,Nat.pow_succ];unfold gp at *;omega
    have hsp:spl (l++[d]).length=gp l.length:=by
     rw[hA]
     exact spl_unique (k:=l.length.log2) (by rw[Nat.pow_succ];omega) (Nat.le_refl _)
    rw[pk_full hA,rt_two (by rw[hA,Nat.pow_succ];unfold gp at *;omega),hsp,htk,hdr,pk_s h0,t2,jns_add,jns_cons z _ _ _ _ (by omega)]
    generalize jns node z l.length.log2 (pk node emp (l.drop (gp l.length)),d)=w at *
    obtain⟨w1,w2⟩:=w
    simp only at ih
    have hw:w1=[]/\w2=rt node emp (l.drop (gp l.length)++[d]):=by
     cases w1 with
     | nil=>simpa using ih
     | cons a b=>simp at ih
    obtain⟨rfl,rfl⟩:=hw
    rfl
   . have hg:gp (l.length+1)=gp l.length:=gp_unique (k:=l.length.log2) (by unfold gp at *;omega) (by rw[Nat.pow_succ];unfold gp at *;omega)
     have ht:tr1 l.length=tr1 (l.length-gp l.length):=by
      have:=tr1_high l.length.log2 (l.length-gp l.length) (by unfold gp at *;omega)
      rw[show 2^l.length.log2=gp l.length from rfl,Nat.add_sub_cancel' hle]at this
      exact this
     rw[pk_s (l:=l++[d]) (by omega),hla,hg,htk,hdr,<-ih,pk_s h0,ht,jns_cons z _ _ _ _ (by omega)]
     rfl
end
end Go.Mk
