/-
  Hash trees, in plain terms: roots, paths, proofs. No condition.
-/

set_option linter.all false
open Nat renaming pow_le_pow_right->wA,two_pow_pos->wB,pow_succ->wC
open List renaming getD_eq_getElem?_getD->wD,length_take->wE,length_drop->wF,dropLast_concat->wG,length_append->wH,take_length->wI
namespace Go.Mk
def spl (n:Nat):Nat:=2^(n-1).log2
theorem zcu {n:Nat}(h:2<=n):spl n<n:=by
 have:=Nat.log2_self_le (show n-1≠0 by omega)
 unfold spl;omega
theorem zb6 (n:Nat):0<spl n:=wB _
theorem zyh {n:Nat}:n<=2*spl n:=by
 have:=@Nat.lt_log2_self (n-1)
 unfold spl
 rw[wC]at this
 omega
theorem z57 {n m:Nat}(h:2<=n)(hn:n<=2^(m+1)):spl n<=2^m:=by
 have h1:=zcu h
 unfold spl at *
 refine wA (by decide) ?_
 rcases Nat.lt_or_ge m (n-1).log2 with h2|h2
 . have:=wA (show 0<2 by decide) (show m+1<=(n-1).log2 by omega)
   omega
 . exact h2
theorem ziw {n k:Nat}(h1:2^k<n)(h2:n<=2^(k+1)):spl n=2^k:=by
 unfold spl
 congr 1
 rw[Nat.log2_eq_iff (by have:=wB k;omega)]
 omega
theorem z7o (n:Nat):∃k,spl n=2^k:=⟨_,rfl⟩
section
variable {D :Type} (node:D->D->D) (emp:D)
def rt (l:List D):D :=
 if h:2<=l.length then node (rt (l.take (spl l.length))) (rt (l.drop (spl l.length)))else l.headD emp
termination_by l.length
decreasing_by
 . have:=zcu h;rw[wE];omega
 . have:=zb6 l.length;rw[wF];omega
variable {node emp}
theorem zh9 {l:List D}(h:2<=l.length):rt node emp l=node (rt node emp (l.take (spl l.length))) (rt node emp (l.drop (spl l.length))):=by rw[rt,dif_pos h]
theorem zqd :rt node emp []=emp:=by rw[rt,dif_neg (by simp)];rfl
theorem zub (d:D):rt node emp [d]=d:=by rw[rt,dif_neg (by simp)];rfl
theorem z73 {l:List D}(h:l.length=1):rt node emp l=l.headD emp:=by rw[rt,dif_neg (by omega)]
variable (node emp)
def incl (l:List D)(i:Nat):List D :=
 if h:2<=l.length then
  if i<spl l.length then incl (l.take (spl l.length)) i++[rt node emp (l.drop (spl l.length))]
  else incl (l.drop (spl l.length)) (i-spl l.length)++[rt node emp (l.take (spl l.length))]
 else []
termination_by l.length
decreasing_by
 . have:=zcu h;rw[wE];omega
 . have:=zb6 l.length;rw[wF];omega
variable {node emp}
theorem ze0 {l:List D}{i:Nat}(h:l.length<2):incl node emp l i=[]:=by rw[incl,dif_neg (by omega)]
theorem zly {l:List D}{i:Nat}(h:2<=l.length)(hi:i<spl l.length):incl node emp l i=incl node emp (l.take (spl l.length)) i++[rt node emp (l.drop (spl l.length))]:=by rw[incl,dif_pos h,if_pos hi]
theorem zlz {l:List D}{i:Nat}(h:2<=l.length)(hi:¬i<spl l.length):incl node emp l i=incl node emp (l.drop (spl l.length)) (i-spl l.length)++[rt node emp (l.take (spl l.length))]:=by rw[incl,dif_pos h,if_neg hi]
def dep (i n:Nat):Nat :=
 if h:2<=n then(if i<spl n then dep i (spl n)else dep (i-spl n) (n-spl n))+1 else 0
termination_by n
decreasing_by
 . exact zcu h
 . have:=zb6 n;omega
theorem dep_one {i n:Nat}(h:n<2):dep i n=0:=by rw[dep,dif_neg (by omega)]
theorem z6o {i n:Nat}(h:2<=n)(hi:i<spl n):dep i n=dep i (spl n)+1:=by rw[dep,dif_pos h,if_pos hi]
theorem z6p {i n:Nat}(h:2<=n)(hi:¬i<spl n):dep i n=dep (i-spl n) (n-spl n)+1:=by rw[dep,dif_pos h,if_neg hi]
variable (node)
def cl (z leaf:D)(i n:Nat)(p:List D):D :=
 if h:2<=n then
  if i<spl n then node (cl z leaf i (spl n) p.dropLast) (p.getLastD z)else node (p.getLastD z) (cl z leaf (i-spl n) (n-spl n) p.dropLast)
 else leaf
termination_by n
decreasing_by
 . exact zcu h
 . have:=zb6 n;omega
variable {node}
theorem zvn {z leaf:D}{i n:Nat}{p:List D}(h:n<2):cl node z leaf i n p=leaf:=by rw[cl,dif_neg (by omega)]
theorem qah {z leaf:D}{i n:Nat}{p:List D}(h:2<=n)(hi:i<spl n):cl node z leaf i n p=node (cl node z leaf i (spl n) p.dropLast) (p.getLastD z):=by rw[cl,dif_pos h,if_pos hi]
theorem qai {z leaf:D}{i n:Nat}{p:List D}(h:2<=n)(hi:¬i<spl n):cl node z leaf i n p=node (p.getLastD z) (cl node z leaf (i-spl n) (n-spl n) p.dropLast):=by rw[cl,dif_pos h,if_neg hi]
theorem zee (p:List D)(d z:D):(p++[d]).getLastD z=d:=by simp
theorem incl_ok (z:D):∀(m:Nat) (l:List D) (i:Nat),l.length<=m->i<l.length->(incl node emp l i).length=dep i l.length/\cl node z (l.getD i emp) i l.length (incl node emp l i)=rt node emp l
 | 0,l,i,hm,hi=>by omega
 | m+1,l,i,hm,hi=>by
   by_cases h2:2<=l.length
   case neg =>
    have h1:l.length=1:=by omega
    obtain rfl:i=0:=by omega
    rw[ze0 (by omega),dep_one (by omega),zvn (by omega),z73 h1]
    refine⟨rfl,?_⟩
    match l,h1 with
    | [d],_=>rfl
   have hs:=zcu h2
   have hp:=zb6 l.length
   have ht:(l.take (spl l.length)).length=spl l.length:=by rw[wE];omega
   have hd:(l.drop (spl l.length)).length=l.length-spl l.length:=wF
   by_cases hk:i<spl l.length
   . obtain⟨a1,a2⟩:=incl_ok z m (l.take (spl l.length)) i (by omega) (by omega)
     rw[ht]at a1 a2
     rw[zly h2 hk,z6o h2 hk,qah h2 hk,zh9 h2,wH,a1,wG,zee]
     refine⟨rfl,?_⟩
     rw[<-a2]
     congr 2
     rw[wD,wD,List.getElem?_take,if_pos hk]
   . obtain⟨a1,a2⟩:=incl_ok z m (l.drop (spl l.length)) (i-spl l.length) (by omega) (by omega)
     rw[hd]at a1 a2
     rw[zlz h2 hk,z6p h2 hk,qai h2 hk,zh9 h2,wH,a1,wG,zee]
     refine⟨rfl,?_⟩
     rw[<-a2]
     congr 2
     rw[wD,wD,List.getElem?_drop,show spl l.length+(i-spl l.length)=i by omega]
variable (node emp)
def cons (l:List D)(m:Nat)(mark:Bool):List D :=
 if m=l.length then(if mark then []else [rt node emp l])
 else if h:2<=l.length then
  if m<=spl l.length then cons (l.take (spl l.length)) m mark++[rt node emp (l.drop (spl l.length))]
  else cons (l.drop (spl l.length)) (m-spl l.length) false++[rt node emp (l.take (spl l.length))]
 else []
termination_by l.length
decreasing_by
 . have:=zcu h;rw[wE];omega
 . have:=zb6 l.length;rw[wF];omega
variable {node emp}
theorem cons_all {l:List D}{mark:Bool}:cons node emp l l.length mark=if mark then []else [rt node emp l]:=by rw[cons,if_pos rfl]
theorem zma {l:List D}{m:Nat}{mark:Bool}(h:2<=l.length)(hn:m≠l.length)(hm:m<=spl l.length):cons node emp l m mark=cons node emp (l.take (spl l.length)) m mark++[rt node emp (l.drop (spl l.length))]:=by rw[cons,if_neg hn,dif_pos h,if_pos hm]
theorem zmb {l:List D}{m:Nat}{mark:Bool}(h:2<=l.length)(hn:m≠l.length)(hm:¬m<=spl l.length):cons node emp l m mark=cons node emp (l.drop (spl l.length)) (m-spl l.length) false++[rt node emp (l.take (spl l.length))]:=by rw[cons,if_neg hn,dif_pos h,if_neg hm]
def depC (m n:Nat)(mark:Bool):Nat :=
 if m=n then(if mark then 0 else 1)
 else if h:2<=n then(if m<=spl n then depC m (spl n) mark else depC (m-spl n) (n-spl n) false)+1
 else 0
termination_by n
decreasing_by
 . exact zcu h
 . have:=zb6 n;omega
theorem zvh {n:Nat}{mark:Bool}:depC n n mark=if mark then 0 else 1:=by rw[depC,if_pos rfl]
theorem z1x {m n:Nat}{mark:Bool}(h:2<=n)(hn:m≠n)(hm:m<=spl n):depC m n mark=depC m (spl n) mark+1:=by rw[depC,if_neg hn,dif_pos h,if_pos hm]
theorem z1y {m n:Nat}{mark:Bool}(h:2<=n)(hn:m≠n)(hm:¬m<=spl n):depC m n mark=depC (m-spl n) (n-spl n) false+1:=by rw[depC,if_neg hn,dif_pos h,if_neg hm]
variable (node)
def clC (z old:D)(m n:Nat)(mark:Bool)(p:List D):D×D :=
 if m=n then(if mark then(old,old)else(p.getLastD z,p.getLastD z))
 else if h:2<=n then
  if m<=spl n then((clC z old m (spl n) mark p.dropLast).1,node (clC z old m (spl n) mark p.dropLast).2 (p.getLastD z))
  else(node (p.getLastD z) (clC z old (m-spl n) (n-spl n) false p.dropLast).1,node (p.getLastD z) (clC z old (m-spl n) (n-spl n) false p.dropLast).2)
 else(z,z)
termination_by n
decreasing_by
 all_goals first|exact zcu h|(have:=zb6 n;omega)
variable {node}
theorem z2a {z old:D}{n:Nat}{mark:Bool}{p:List D}:clC node z old n n mark p=if mark then(old,old)else(p.getLastD z,p.getLastD z):=by rw[clC,if_pos rfl]
theorem z6s {z old:D}{m n:Nat}{mark:Bool}{p:List D}(h:2<=n)(hn:m≠n)(hm:m<=spl n):clC node z old m n mark p=((clC node z old m (spl n) mark p.dropLast).1,node (clC node z old m (spl n) mark p.dropLast).2 (p.getLastD z)):=by rw[clC,if_neg hn,dif_pos h,if_pos hm]
theorem z6t {z old:D}{m n:Nat}{mark:Bool}{p:List D}(h:2<=n)(hn:m≠n)(hm:¬m<=spl n):clC node z old m n mark p=(node (p.getLastD z) (clC node z old (m-spl n) (n-spl n) false p.dropLast).1,node (p.getLastD z) (clC node z old (m-spl n) (n-spl n) false p.dropLast).2):=by rw[clC,if_neg hn,dif_pos h,if_neg hm]
def mrk (m n:Nat):Bool :=
 if m=n then true else if h:2<=n then(if m<=spl n then mrk m (spl n)else false)else true
termination_by n
decreasing_by exact zcu h
theorem ziu {l:List D}{m k:Nat}(h:m<=k):(l.take k).take m=l.take m:=by rw[List.take_take,Nat.min_eq_left h]
theorem zv7 {l:List D}{m:Nat}(h:2<=l.length)(h1:spl l.length<m)(h2:m<=l.length) :
  rt node emp (l.take m)=node (rt node emp (l.take (spl l.length))) (rt node emp ((l.drop (spl l.length)).take (m-spl l.length))):=by
 have hl:(l.take m).length=m:=by rw[wE];omega
 obtain⟨k,hk⟩:=z7o l.length
 have hs:spl m=spl l.length:=by
  rw[hk]
  have:=zyh (n:=l.length)
  exact ziw (by omega) (by rw[wC];omega)
 have hp:=zb6 l.length
 rw[zh9 (by omega),hl,hs,ziu (by omega),List.drop_take]
theorem cons_ok (z old:D):∀(q:Nat) (l:List D) (m:Nat) (mark:Bool),l.length<=q->1<=m->m<=l.length->(mark=true->mrk m l.length=true->old=rt node emp (l.take m)) ->
  (cons node emp l m mark).length=depC m l.length mark/\clC node z old m l.length mark (cons node emp l m mark)=(rt node emp (l.take m),rt node emp l)
 | 0,l,m,mark,hq,h1,h2,ho=>by omega
 | q+1,l,m,mark,hq,h1,h2,ho=>by
   by_cases hn:m=l.length
   . subst hn
     rw[cons_all,zvh,z2a,wI]
     cases mark with
     | true =>
       have:=ho rfl (by rw[mrk,if_pos rfl])
       rw[wI]at this
       simp[this]
     | false=>simp
   have h3:2<=l.length:=by omega
   have hs:=zcu h3
   have hp:=zb6 l.length
   have ht:(l.take (spl l.length)).length=spl l.length:=by rw[wE];omega
   have hd:(l.drop (spl l.length)).length=l.length-spl l.length:=wF
   by_cases hk:m<=spl l.length
   . obtain⟨a1,a2⟩:=cons_ok z old q (l.take (spl l.length)) m mark (by omega) h1 (by omega) (fun h4 h5=>by
      rw[ziu hk]
      refine ho h4 ?_
      rw[mrk,if_neg hn,dif_pos h3,if_pos hk]
      rw[ht]at h5;exact h5)
     rw[ht]at a1 a2
     rw[zma h3 hn hk,z1x h3 hn hk,z6s h3 hn hk,zh9 h3,wH,a1,wG,zee,a2,ziu hk]
     exact⟨rfl,rfl⟩
   . obtain⟨a1,a2⟩:=cons_ok z old q (l.drop (spl l.length)) (m-spl l.length) false (by omega) (by omega) (by omega) (fun h4=>by cases h4)
     rw[hd]at a1 a2
     rw[zmb h3 hn hk,z1y h3 hn hk,z6t h3 hn hk,zv7 h3 (by omega) h2,wH,a1,wG,zee,a2,zh9 (node:=node) (emp:=emp) h3]
     exact⟨rfl,rfl⟩
variable (node emp)
variable {node emp}
variable (node)
variable {node}
end
end Go.Mk
