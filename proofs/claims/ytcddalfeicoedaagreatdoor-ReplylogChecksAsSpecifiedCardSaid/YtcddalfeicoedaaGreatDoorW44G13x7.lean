/-
  Hash trees, in plain terms: roots, paths, proofs. No condition.
-/

set_option linter.unusedVariables false
set_option linter.unusedSimpArgs false
set_option linter.unusedSectionVars false
namespace Go.Mk
def spl (n:Nat):Nat:=2^(n-1).log2
theorem zdi {n:Nat}(h:2<=n):spl n<n:=by
 have:=Nat.log2_self_le (show n-1≠0 by omega)
 unfold spl;omega
theorem zc4 (n:Nat):0<spl n:=Nat.two_pow_pos _
theorem spl_ge {n:Nat}:n<=2*spl n:=by
 have:=@Nat.lt_log2_self (n-1)
 unfold spl
 rw[Nat.pow_succ]at this
 omega
theorem spl_le {n m:Nat}(h:2<=n)(hn:n<=2^(m+1)):spl n<=2^m:=by
 have h1:=zdi h
 unfold spl at *
 refine Nat.pow_le_pow_right (by decide) ?_
 rcases Nat.lt_or_ge m (n-1).log2 with h2|h2
 . have:=Nat.pow_le_pow_right (show 0<2 by decide) (show m+1<=(n-1).log2 by omega)
   omega
 . exact h2
section
variable {D :Type} (node:D->D->D) (emp:D)
def rt (l:List D):D :=
 if h:2<=l.length then node (rt (l.take (spl l.length))) (rt (l.drop (spl l.length)))else l.headD emp
termination_by l.length
decreasing_by
 . have:=zdi h;rw[List.length_take];omega
 . have:=zc4 l.length;rw[List.length_drop];omega
variable {node emp}
theorem rt_two {l:List D}(h:2<=l.length):rt node emp l=node (rt node emp (l.take (spl l.length))) (rt node emp (l.drop (spl l.length))):=by rw[rt,dif_pos h]
theorem rt_nil :rt node emp []=emp:=by rw[rt,dif_neg (by simp)];rfl
theorem rt_one (d:D):rt node emp [d]=d:=by rw[rt,dif_neg (by simp)];rfl
variable (node emp)
def incl (l:List D)(i:Nat):List D :=
 if h:2<=l.length then
  if i<spl l.length then incl (l.take (spl l.length)) i++[rt node emp (l.drop (spl l.length))]
  else incl (l.drop (spl l.length)) (i-spl l.length)++[rt node emp (l.take (spl l.length))]
 else []
termination_by l.length
decreasing_by
 . have:=zdi h;rw[List.length_take];omega
 . have:=zc4 l.length;rw[List.length_drop];omega
variable {node emp}
theorem ziw {l:List D}{i:Nat}(h:l.length<2):incl node emp l i=[]:=by rw[incl,dif_neg (by omega)]
theorem incl_lo {l:List D}{i:Nat}(h:2<=l.length)(hi:i<spl l.length):incl node emp l i=incl node emp (l.take (spl l.length)) i++[rt node emp (l.drop (spl l.length))]:=by rw[incl,dif_pos h,if_pos hi]
theorem incl_hi {l:List D}{i:Nat}(h:2<=l.length)(hi:¬i<spl l.length):incl node emp l i=incl node emp (l.drop (spl l.length)) (i-spl l.length)++[rt node emp (l.take (spl l.length))]:=by rw[incl,dif_pos h,if_neg hi]
def dep (i n:Nat):Nat :=
 if h:2<=n then(if i<spl n then dep i (spl n)else dep (i-spl n) (n-spl n))+1 else 0
termination_by n
decreasing_by
 . exact zdi h
 . have:=zc4 n;omega
theorem dep_one {i n:Nat}(h:n<2):dep i n=0:=by rw[dep,dif_neg (by omega)]
theorem dep_lo {i n:Nat}(h:2<=n)(hi:i<spl n):dep i n=dep i (spl n)+1:=by rw[dep,dif_pos h,if_pos hi]
theorem dep_hi {i n:Nat}(h:2<=n)(hi:¬i<spl n):dep i n=dep (i-spl n) (n-spl n)+1:=by rw[dep,dif_pos h,if_neg hi]
variable (node)
def cl (z leaf:D)(i n:Nat)(p:List D):D :=
 if h:2<=n then
  if i<spl n then node (cl z leaf i (spl n) p.dropLast) (p.getLastD z)else node (p.getLastD z) (cl z leaf (i-spl n) (n-spl n) p.dropLast)
 else leaf
termination_by n
decreasing_by
 . exact zdi h
 . have:=zc4 n;omega
variable {node}
theorem cl_one {z leaf:D}{i n:Nat}{p:List D}(h:n<2):cl node z leaf i n p=leaf:=by rw[cl,dif_neg (by omega)]
theorem cl_lo {z leaf:D}{i n:Nat}{p:List D}(h:2<=n)(hi:i<spl n):cl node z leaf i n p=node (cl node z leaf i (spl n) p.dropLast) (p.getLastD z):=by rw[cl,dif_pos h,if_pos hi]
theorem cl_hi {z leaf:D}{i n:Nat}{p:List D}(h:2<=n)(hi:¬i<spl n):cl node z leaf i n p=node (p.getLastD z) (cl node z leaf (i-spl n) (n-spl n) p.dropLast):=by rw[cl,dif_pos h,if_neg hi]
variable (node emp)
def cons (l:List D)(m:Nat)(mark:Bool):List D :=
 if m=l.length then(if mark then []else [rt node emp l])
 else if h:2<=l.length then
  if m<=spl l.length then cons (l.take (spl l.length)) m mark++[rt node emp (l.drop (spl l.length))]
  else cons (l.drop (spl l.length)) (m-spl l.length) false++[rt node emp (l.take (spl l.length))]
 else []
termination_by l.length
decreasing_by
 . have:=zdi h;rw[List.length_take];omega
 . have:=zc4 l.length;rw[List.length_drop];omega
variable {node emp}
def depC (m n:Nat)(mark:Bool):Nat :=
 if m=n then(if mark then 0 else 1)
 else if h:2<=n then(if m<=spl n then depC m (spl n) mark else depC (m-spl n) (n-spl n) false)+1
 else 0
termination_by n
decreasing_by
 . exact zdi h
 . have:=zc4 n;omega
theorem depC_all {n:Nat}{mark:Bool}:depC n n mark=if mark then 0 else 1:=by rw[depC,if_pos rfl]
theorem depC_lo {m n:Nat}{mark:Bool}(h:2<=n)(hn:m≠n)(hm:m<=spl n):depC m n mark=depC m (spl n) mark+1:=by rw[depC,if_neg hn,dif_pos h,if_pos hm]
theorem depC_hi {m n:Nat}{mark:Bool}(h:2<=n)(hn:m≠n)(hm:¬m<=spl n):depC m n mark=depC (m-spl n) (n-spl n) false+1:=by rw[depC,if_neg hn,dif_pos h,if_neg hm]
variable (node)
def clC (z old:D)(m n:Nat)(mark:Bool)(p:List D):D×D :=
 if m=n then(if mark then(old,old)else(p.getLastD z,p.getLastD z))
 else if h:2<=n then
  if m<=spl n then((clC z old m (spl n) mark p.dropLast).1,node (clC z old m (spl n) mark p.dropLast).2 (p.getLastD z))
  else(node (p.getLastD z) (clC z old (m-spl n) (n-spl n) false p.dropLast).1,node (p.getLastD z) (clC z old (m-spl n) (n-spl n) false p.dropLast).2)
 else(z,z)
termination_by n
decreasing_by
 all_goals first|exact zdi h|(have:=zc4 n;omega)
variable {node}
theorem clC_all {z old:D}{n:Nat}{mark:Bool}{p:List D}:clC node z old n n mark p=if mark then(old,old)else(p.getLastD z,p.getLastD z):=by rw[clC,if_pos rfl]
theorem clC_lo {z old:D}{m n:Nat}{mark:Bool}{p:List D}(h:2<=n)(hn:m≠n)(hm:m<=spl n):clC node z old m n mark p=((clC node z old m (spl n) mark p.dropLast).1,node (clC node z old m (spl n) mark p.dropLast).2 (p.getLastD z)):=by rw[clC,if_neg hn,dif_pos h,if_pos hm]
theorem clC_hi {z old:D}{m n:Nat}{mark:Bool}{p:List D}(h:2<=n)(hn:m≠n)(hm:¬m<=spl n):clC node z old m n mark p=(node (p.getLastD z) (clC node z old (m-spl n) (n-spl n) false p.dropLast).1,node (p.getLastD z) (clC node z old (m-spl n) (n-spl n) false p.dropLast).2):=by rw[clC,if_neg hn,dif_pos h,if_neg hm]
variable (node emp)
variable {node emp}
variable (node)
variable {node}
end
end Go.Mk
namespace Go.Mk
variable {D :Type} {node:D->D->D} {emp:D}
end Go.Mk
