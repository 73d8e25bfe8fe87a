/-
  Chapter 16: is a division fair? No condition.
-/
import Derived.Test.YthipjfnealbheaaDoorW17G3x5
set_option linter.all false
namespace Go.Proofs.S17.Q
open Go Go.Ev Go.Proofs
variable {gl :Gl} {n:Nat}
section
variable {l :List S2} {g:List Int}
end
section
variable {l :List S2} {g:List Int} {f f':Bool} {k k':Sh} {c:Int} (hm:Mk l k sS) (hm':Mk g k' .sc) (hv:VS l) (hlen:g.length=l.length)
include hm hm' hv hlen
end
section
variable {l :List S2} {g:List Int} {f f':Bool} {k k':Sh} {c:Int} (hm:Mk l k sS) (hm':Mk g k' .sc) (hv:VS l) (hlen:g.length=l.length)
include hm hm' hv hlen
end
end Go.Proofs.S17.Q
namespace Go.Proofs.S17.Q
open Go Go.Ev Go.Proofs
variable {l :List S2} {c m:Int}
end Go.Proofs.S17.Q
