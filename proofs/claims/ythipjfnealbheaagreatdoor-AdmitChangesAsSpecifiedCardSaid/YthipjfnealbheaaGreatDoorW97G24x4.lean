/-
  Chapter 17: an object removed and taken in again (plain law). No condition.
-/
import Derived.Test.YthipjfnealbheaaGreatDoorW97G23x4
set_option linter.all false
namespace Go.Proofs.S97
open Go Go.Ev Go.Proofs Go.Proofs.S97.Q
end Go.Proofs.S97
namespace Go.Proofs.S97
open Go Go.Ev Go.Proofs Go.Proofs.S97.Q
variable {gl :Gl} {n:Nat}
theorem qjc (h:5<=n){S:Sf}{q:Fl}(hq:FlOk S q)(hS:ArS S) :
  ∃b:Bool,(b=true↔(S.A.length<=8/\S.H.length<=30/\S.L.length<=300)/\VSf S)/\call gl tab n 5 [sfV S q] []=some (.bool b,[],[]):=by
 obtain⟨d,rfl⟩:=Nat.exists_eq_add_of_le' h
 obtain⟨bf,hbf,cf⟩:=@qde gl (d+4) (by omega) S q hS
 rw[zaf (fd:=fd5) rfl]
 cases bf with
 | false=>exact⟨false,⟨(fun h=>by cases h),fun h=>by have:=hbf.2 h.1;cases this⟩,by simp(disch:=apply zq;omega) only[go_sem,simprocAttr,↓Nat.reduceEqDiff,xx,fd5,m5,cf]⟩
 | true =>
   obtain⟨f1,f2,f3⟩:=hbf.1 rfl
   obtain⟨b2,hb2,c2⟩:=@rvalid_at gl (d+4) (by omega) S q hq (by omega) (by omega) (by omega)
   refine⟨b2,⟨fun h=>⟨⟨f1,f2,f3⟩,hb2.1 h⟩,fun h=>hb2.2 h.2⟩,?_⟩
   cases b2<;>simp(disch:=apply zq;omega) only[go_sem,simprocAttr,↓Nat.reduceEqDiff,xx,fd5,m5,cf,c2]
end Go.Proofs.S97
namespace Go.Proofs.S97
open Go Go.Ev Go.Proofs Go.Proofs.S97.Q
end Go.Proofs.S97
namespace Go.Proofs.S97
open Go Go.Ev Go.Proofs Go.Proofs.S97.Q
end Go.Proofs.S97
namespace Go.Proofs.S97
open Go Go.Ev Go.Proofs Go.Proofs.S97.Q
variable {gl :Gl} {n:Nat}
end Go.Proofs.S97
