/-
  Hash trees, in plain terms: several elements, peaks, collisions. No condition.
-/
import Derived.Test.YtcddalfeicoedaaGreatDoorMkA
set_option linter.unusedVariables false
set_option linter.unusedSimpArgs false
set_option linter.unusedSectionVars false
namespace Go.Mk
variable {D :Type} {node:D->D->D} {emp:D}
end Go.Mk
namespace Go.Mk
def pcn (n:Nat):Nat:=if h:n=0 then 0 else n%2+pcn (n/2)
def tr1 (n:Nat):Nat:=if h:n%2=1 then tr1 (n/2)+1 else 0
termination_by n
decreasing_by omega
theorem pcn_0 :pcn 0=0:=by rw[pcn,dif_pos rfl]
theorem pcn_s {n:Nat}(h:n≠0):pcn n=n%2+pcn (n/2):=by rw[pcn,dif_neg h]
theorem pcn_two (n:Nat):pcn n=n%2+pcn (n/2):=by
 by_cases h:n=0
 . subst h;simp[pcn_0]
 . exact pcn_s h
theorem tr1_o {n:Nat}(h:n%2=1):tr1 n=tr1 (n/2)+1:=by rw[tr1,dif_pos h]
theorem tr1_e {n:Nat}(h:n%2=0):tr1 n=0:=by rw[tr1,dif_neg (by omega)]
theorem tr1_le :∀(q n:Nat),n<=q->tr1 n<=pcn n
 | 0,n,h=>by
   obtain rfl:n=0:=by omega
   rw[tr1_e rfl];exact Nat.zero_le _
 | q+1,n,h=>by
   by_cases ho:n%2=1
   . rw[tr1_o ho,pcn_two,ho]
     have:=tr1_le q (n/2) (by omega)
     omega
   . rw[tr1_e (by omega)];exact Nat.zero_le _
section
variable {D :Type} (node:D->D->D) (emp:D)
def gp (n:Nat):Nat:=2^n.log2
theorem gp_pos (n:Nat):0<gp n:=Nat.two_pow_pos _
def pk (l:List D):List D :=
 if h:l.length=0 then []else rt node emp (l.take (gp l.length))::pk (l.drop (gp l.length))
termination_by l.length
decreasing_by
 have:=gp_pos l.length;rw[List.length_drop];omega
variable {node emp}
variable (node)
variable {node}
end
end Go.Mk
