/-
  Chapter 44: the texts of a reply without lists, as specified. No condition.
-/
import Derived.Test.YtcddalfeicoedaaGreatDoorW44G21x4
import Derived.Test.YtcddalfeicoedaaGreatDoorW44G16x4
import Derived.Test.YtcddalfeicoedaaGreatDoorW44G11x4
set_option linter.all false
namespace Go.Proofs.S44.L
open Go Go.Ev Go.Proofs Go.Proofs.S44
open Go.Proofs.S44.H (strsAV zaa zaj Sml GlK GlR zal zbk nsI zak zint zat encB zaw zae)
variable {gl :Gl} {n:Nat}
end Go.Proofs.S44.L
namespace Go.Proofs.S44.M
open Go Go.Ev Go.Proofs Go.Mk
open Go.Proofs.S44.H (GlK GlR)
variable {gl :Gl} {n:Nat}
section
variable [Nonempty (GlK gl)]
end
end Go.Proofs.S44.M
namespace Go.Proofs.S44.M
open Go Go.Ev Go.Proofs Go.Mk
open Go.Proofs.S44.H (GlK GlR)
variable {gl :Gl} {n:Nat}
section
variable [Nonempty (GlR gl)]
end
end Go.Proofs.S44.M
namespace Go.Proofs.S44.L
open Go Go.Ev Go.Proofs Go.Proofs.S44
open Go.Proofs.S44.H (strsAV zaa zaj Sml GlK GlR zal zbk nsI zak)
open Go.Proofs.S44.M (lf zde Dg dgL dgL_length All16 Sd sB pkAV grw P8 R8 ansL nilA)
variable {gl :Gl} {n:Nat}
def zR0 :Re:={zRe 0 with site:=0}
section
variable {s z:Int} {f f2 f3:Bool} {sh sh2 sh3:Sh} {l:List Rv} {t:List Dg} {hs:List Hd}
section
variable (h3 :hs=[]\/sh3=sHd) (hhl:hs.length<=60000) (hh:∀y∈hs,HdOk y) {h:Hd} (o:HdOk h)
include h3 hhl hh o
end
end
end Go.Proofs.S44.L
namespace Go.Proofs.S44.L
open Go Go.Ev Go.Proofs Go.Proofs.S44
open Go.Proofs.S44.H (strsAV zaa zaj Sml GlK GlR zal zbk nsI zak zint zat encB zaw zae)
variable {gl :Gl} {n:Nat}
def L23 :MC:=match m23 with| .seq _ (.seq _ (.seq (.seq _ (.block _ (.loop _ b))) _))=>b|_=>.skip
def S23 (f g:Bool)(a b:List (List UInt8))(i:Nat):St:=⟨[.set 5 (i64 i),.set 1 (.lst g .sc (strsAV b)),.set 0 (.lst f .sc (strsAV a))],[]⟩
theorem z20 (h:1<=n)(f g:Bool){a b:List (List UInt8)}(ha:a.length<=60000)(hb:b.length<=60000):call gl tab n 23 [.lst f .sc (strsAV a),.lst g .sc (strsAV b)] []=some (.bool (decide (a=b)),[],[]):=by
 obtain⟨d,rfl⟩:=Nat.exists_eq_add_of_le' h
 have la:=zaa a
 have lb:=zaa b
 rw[zaf (fd:=fd23) rfl]
 by_cases hl:a.length=b.length
 case neg =>
  rw[decide_eq_false fun e=>hl (by rw[e])]
  simp(disch:=apply zq;omega) only[go_sem,simprocAttr,↓Nat.reduceEqDiff,xx,fd23,m23,la,lb]
 have hs:∀i,i<a.length->sat a i=sat b i->zbm [.slot 0,.slot 1,.slot 5] (evC gl (call gl tab d) L23 (S23 f g a b i))=some (S23 f g a b (i+1)):=fun i hi hp=>by
  have hx:=zi3 hi
  have hy:=zi3 (l:=b) (i:=i) (by omega)
  rw[hp]at hx
  simp(disch:=apply zq;omega) only[go_sem,simprocAttr,↓Nat.reduceEqDiff,xx,L23,m23,S23,la,lb,hx,hy,bne_self_eq_false]
 have hf:∀i,i<a.length->¬sat a i=sat b i->out1 4 (evC gl (call gl tab d) L23 (S23 f g a b i))=some (.ret,.bool false):=fun i hi hp=>by
  have hx:=zi3 hi
  have hy:=zi3 (l:=b) (i:=i) (by omega)
  have he:(sat a i==sat b i)=false:=by rw[beq_eq_false_iff_ne];exact hp
  generalize sat a i=u at *
  generalize sat b i=v at *
  simp(disch:=apply zq;omega) only[go_sem,simprocAttr,↓Nat.reduceEqDiff,xx,L23,m23,S23,la,lb,hx,hy,he]
 rcases zc9 (fun i=>sat a i=sat b i) a.length with hA|⟨q,hq,hb',he⟩
 . have e:a=b:=List.ext_getElem hl fun i h1 h2=>by
    have:=hA i h1
    simpa[sat,h1,h2]using this
   rw[decide_eq_true e]
   have hs2:=fun i hi=>hs i hi (hA i hi)
   simp only[L23,m23]at hs2
   simp(disch:=apply zq;omega) only[go_sem,simprocAttr,↓Nat.reduceEqDiff,xx,fd23,m23,la,lb,hl,bne_self_eq_false]
   rw[zam (S23 f g a b) a.length (by unfold LF;omega)]
   . simp(disch:=apply zq;omega) only[go_sem,simprocAttr,↓Nat.reduceEqDiff,xx,S23,la]
   . simp(disch:=apply zq;omega) only[go_sem,simprocAttr,↓Nat.reduceEqDiff,xx,S23]
   . exact hs2
   . simp(disch:=apply zq;omega) only[go_sem,simprocAttr,↓Nat.reduceEqDiff,xx,S23,la]
 . have e:¬a=b:=fun e=>he (by rw[e])
   rw[decide_eq_false e]
   obtain⟨st,hst,hg⟩:=zeu (hf q hq he)
   have hs2:=fun i (hi:i<q)=>hs i (by omega) (hb' i hi)
   simp only[L23,m23]at hs2 hst
   simp(disch:=apply zq;omega) only[go_sem,simprocAttr,↓Nat.reduceEqDiff,xx,fd23,m23,la,lb,hl,bne_self_eq_false]
   rw[zam (S23 f g a b) q (by unfold LF;omega),hst]
   . simp(disch:=apply zq;omega) only[go_sem,simprocAttr,↓Nat.reduceEqDiff,xx,hg]
   . simp(disch:=apply zq;omega) only[go_sem,simprocAttr,↓Nat.reduceEqDiff,xx,S23]
   . exact hs2
   . rw[hst];rfl
end Go.Proofs.S44.L
namespace Go.Proofs.S44.L
open Go Go.Ev Go.Proofs Go.Proofs.S44
open Go.Proofs.S44.H (strsAV zaa zaj Sml GlK GlR zal zbk nsI zak)
open Go.Proofs.S44.M (lf zde Dg dgL dgL_length All16 Sd sB pkAV grw P8 R8 ansL nilA)
variable {gl :Gl} {n:Nat}
section
variable {s z:Int} {f f2 f3:Bool} {sh sh2 sh3:Sh} {l:List Rv} {t:List Dg} {hs:List Hd}
section
variable (h3 :hs=[]\/sh3=sHd) (hhl:hs.length<=60000) (hh:∀y∈hs,HdOk y) {a b:Hd} (oa:HdOk a) (ob:HdOk b)
include h3 hhl hh oa ob
variable (h2 :Sr l sh) (hl:l.length<=800) (ok:∀x∈l,RvOk gl x) {k m:Nat} (hk:b.size=k) (hm:a.size=m) (hkl:k<=l.length) (hmk:m<=k)
include h2 hl ok hk hm hkl hmk
end
end
end Go.Proofs.S44.L
