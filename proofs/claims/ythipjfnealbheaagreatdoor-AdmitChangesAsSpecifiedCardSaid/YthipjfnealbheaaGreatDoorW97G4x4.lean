/-
  Chapter 16: what is true of a division. No condition; no program.
-/
import Derived.Test.YthipjfnealbheaaGreatDoorW97G3x4
import Derived.Test.YthipjfnealbheaaGreatDoorW97
import Derived.Test.YthipjfnealbheaaGreatDoorEvY
set_option linter.all false
namespace Go.Proofs.S97.Q
open Go Go.Ev Go.Proofs
variable {l :List S2} {c m:Int}
end Go.Proofs.S97.Q
namespace Go.Proofs.S97.Q
open Go Go.Ev Go.Proofs
variable {l :List A3} {c m v:Int} {k:Nat}
section
variable (hv :VA l) (hk:k<l.length) (hc:0<=c/\c<=1099511627776) (hvv:0<=v/\v<=1099511627776) (h:Lv (wnt l k v) c m)
include hv hk hc hvv h
end
end Go.Proofs.S97.Q
namespace Go.Proofs.S97.H
open Go Go.Ev Go.Proofs Go.Proofs.S97
abbrev i64 (n:Int):AV:=.int .i64 n
abbrev u64 (x:BitVec 64):AV:=.int .u64 (x.toNat:Int)
abbrev u32 (x:BitVec 32):AV:=.int .u32 (x.toNat:Int)
abbrev u8 (x:BitVec 8):AV:=.int .u8 (x.toNat:Int)
def ub (b:BitVec 8):UInt8:=⟨b⟩
structure GlK (gl:Gl):Prop where
 k:gl.tbl 1=some (.ar 64 .sc,.agg kA)
structure GlR (gl:Gl):Prop where
 r:gl.tbl 0=some (.ar 64 .sc,.agg kA)
def zil (l:List (List UInt8)):List AV:=l.map fun x=>.str x
theorem zde (l:List (List UInt8)):(zil l).length=l.length:=by simp[zil]
theorem zm5 {l:List (List UInt8)}{i:Nat}(h:i<l.length):(zil l)[i]? =some (.str l[i]):=by
 rw[zil,List.getElem?_map,List.getElem?_eq_getElem h];rfl
theorem zd0 {i:Nat}(h:i<2^62):IntKind.wrap .i64 ((i:Int)+1)=((i+1:Nat):Int):=by
 rw[zaw (by omega) (by omega)];rfl
theorem glK {gl:Gl}[h:Nonempty (GlK gl)]:gl.tbl 1=some (.ar 64 .sc,.agg kA):=h.elim fun h=>h.k
theorem glR {gl:Gl}[h:Nonempty (GlR gl)]:gl.tbl 0=some (.ar 64 .sc,.agg kA):=h.elim fun h=>h.r
theorem zp1 {l:List UInt8}{n:Nat}(h:l.length=n):(zac l).take n=zac l:=by rw[<-h,zkj]
theorem zh0 {n:Nat}(h:n<2^36):n+1<=LIM:=by unfold LIM;omega
theorem zas (a b:List UInt8):zac (a++b)=zac a++zac b:=by simp[zac]
theorem rem_nat (a b:Nat)(h:0<b):zam .rem .i64 (a:Int) (b:Int)=some (.int .i64 ((a%b:Nat):Int)):=by
 have hb:¬((b:Int)=0):=by omega
 simp only[zam,hb,if_false];rfl
theorem noImms_bytesAV :∀l:List UInt8,zcy (zac l)=true
 | []=>rfl
 | b::l=>by
   show(zc5 (.int .u8 (b.toNat:Int))&&zcy (zac l))=true
   rw[noImms_bytesAV l];rfl
end Go.Proofs.S97.H
