/-
  For the evaluator's user: evaluation by simp, no lambda on the way. No condition.
-/
import Derived.Test.YthipjfnealbheaaDoorEvD
import Derived.Attr
set_option linter.all false
open Bool renaming false_eq_true->wB,true_and->wC,not_true->wD
open Option renaming bind_some->wE
open BitVec renaming eq_of_toNat_eq->wF,ofInt_natCast->wG,toNat_ofNat->wH,toNat_ofInt->wJ,ofInt_mul->wK,ofInt_add->wL,toInt->wM
open Int renaming fdiv_eq_ediv_of_nonneg->wN,ofNat_lt->wO,ofNat_le->wP,ediv_eq_zero_of_lt->wQ,pow_pos->wR,natCast_emod->wS,le_of_lt->wT
open Nat renaming min_eq_right->wU,min_eq_left->wV,pow_le_pow_right->wW,add_one_sub_one->wX,mod_eq_of_lt->wY,div_eq_of_lt->wZ,le_total->w0
open List renaming all_cons->w1,take_length->w2
namespace Go.Ev
open Go
class Lq (p:Prop):Prop where
 t:True
instance {α :Type} {a b:α}:Lq (a=b):=⟨trivial⟩
instance {α :Type} [LE α] {a b:α}:Lq (a<=b):=⟨trivial⟩
instance {α :Type} [LT α] {a b:α}:Lq (a<b):=⟨trivial⟩
instance {a b:Prop}:Lq (a/\b):=⟨trivial⟩
instance {a b:Prop}:Lq (a\/b):=⟨trivial⟩
instance {a b:Prop}:Lq (a↔b):=⟨trivial⟩
theorem zq {p:Prop}[Lq p](h:p):p:=h
abbrev Its.o (d:Nat)(m:MOp)(r:Its):Its:=.op (some d) m r
abbrev Its.u (m:MOp)(r:Its):Its:=.op none m r
abbrev FO.o (d:Nat)(m:MOp):FO:=⟨some d,m,none⟩
abbrev FO.u (m:MOp):FO:=⟨none,m,none⟩
abbrev FO.w (d g:Nat)(b:Bool)(m:MOp):FO:=⟨some d,m,some (g,b)⟩
abbrev MOp.m (i:Nat):MOp:=.mov (.t i)
abbrev MOp.l (i:Nat):MOp:=.load false 1 (.t i)
abbrev MOp.L (n i:Nat):MOp:=.load true n (.t i)
abbrev MOp.a (i off x:Nat):MOp:=.faddr i off (.t x)
abbrev MOp.b (op:BinOp)(x y:Nat):MOp:=.bin op (.t x) (.t y)
abbrev MOp.S (n p x:Nat):MOp:=.store n (.t p) (.t x)
abbrev MOp.x (t i:Nat):MOp:=.extr (.t t) i
abbrev MOp.n (t:Nat):MOp:=.len false (.t t)
abbrev MOp.I (esz x i:Nat):MOp:=.iaddrS esz (.t x) (.t i)
abbrev MOp.q (a b:Nat):MOp:=.pick (.t a) (.t b) (.c (.bool false))
abbrev Opd.i (n:Int):Opd:=.c (.int .i64 n)
def seqK (gl:Gl)(cl:Cl)(b:MC):Option (Ex×St)->Option (Ex×St)
 | some (.norm,st)=>evC gl cl b st
 | r=>r
def zra (id:Nat):Option (Ex×St)->Option (Ex×St)
 | some (e,st)=>some (if e= .exit id then .norm else e,st)
 | none=>none
def qgz (ks:List Kp):Option (Ex×St)->Option (Ex×St)
 | some (.norm,st)=>(zdc ks st).map fun st=>(.norm,st)
 | r=>r
def z9b :Option St->Option (Ex×St)
 | some st=>some (.norm,st)
 | none=>none
def itsK (gl:Gl)(cl:Cl)(d:Option Nat)(rest:Its)(st:St):Option (AV×Hp)->Option St
 | some (v,us)=>zbm gl cl rest (st.upd d v us)
 | none=>none
def iteK (gl:Gl)(cl:Cl)(lo hi d:Nat)(rest:Its)(st:St):Option AV->Option St
 | some x=>zbm gl cl rest {fr:=.set d x::.clr lo hi::st.fr,hp:=st.hp}
 | none=>none
def fnK (fd:Fd):Option (Ex×St)->Option (AV×Hp×List OB)
 | some (.norm,st)|some (.ret,st)=>(zgn st fd.res fd.pk).map fun z=>(match z.1 with|[a]=>a|l=>.tup l,[],z.2)
 | _=>none
section
variable {gl :Gl} {cl:Cl} {st:St}
theorem z5d :evC gl cl .skip st=some (.norm,st):=rfl
theorem zsu :evC gl cl .ret st=some (.ret,st):=rfl
theorem z5g {i:Nat}:evC gl cl (.exit i) st=some (.exit i,st):=rfl
theorem zfk {b:MC}:evC gl cl (.scope b) st=evC gl cl b st:=rfl
theorem zss {a b:MC}:evC gl cl (.seq a b) st=seqK gl cl b (evC gl cl a st):=by
 rw[evC];rcases evC gl cl a st with _|⟨_|_|_,_⟩<;>rfl
theorem zx5 {b:MC}:seqK gl cl b (some (.norm,st))=evC gl cl b st:=by rw[seqK]
theorem z21 {b:MC}:seqK gl cl b (some (.ret,st))=some (.ret,st):=rfl
theorem zx6 {b:MC}{i:Nat}:seqK gl cl b (some (.exit i,st))=some (.exit i,st):=rfl
theorem z1b {i:Nat}{b:MC}:evC gl cl (.block i b) st=zra i (evC gl cl b st):=by
 rw[evC];rcases evC gl cl b st with _|⟨_,_⟩<;>rfl
theorem zs7 {i:Nat}:zra i (some (.norm,st))=some (.norm,st):=rfl
theorem zxg {i:Nat}:zra i (some (.ret,st))=some (.ret,st):=rfl
theorem zs8 {i j:Nat}:zra i (some (.exit j,st))=some (if j=i then .norm else .exit j,st):=by simp[zra]
theorem z5f {ks:List Kp}{b:MC}:evC gl cl (.kept ks b) st=qgz ks (evC gl cl b st):=by
 rw[evC];rcases evC gl cl b st with _|⟨_|_|_,_⟩<;>rfl
theorem zsv {i:Its}:evC gl cl (.reg i) st=z9b (zbm gl cl i st):=by rw[evC];cases zbm gl cl i st<;>rfl
theorem zi1 :z9b (some st)=some (.norm,st):=rfl
theorem z07 :zbm gl cl .nil st=some st:=rfl
theorem z5b {d:Option Nat}{m:MOp}{r:Its}:zbm gl cl (.op d m r) st=itsK gl cl d r st (zab gl cl st d m):=by
 rw[zbm];rcases zab gl cl st d m with _|⟨_,_⟩<;>rfl
theorem zzu {d:Option Nat}{r:Its}{v:AV}{us:Hp}:itsK gl cl d r st (some (v,us))=zbm gl cl r (st.upd d v us):=by rw[itsK]
end
def zbx (gl:Gl)(cl:Cl):List FO->St->Option St
 | [],st=>some st
 | o::l,st =>
   match o.g with
   | none=>(zab gl cl st o.d o.m).bind fun r=>zbx gl cl l (st.upd o.d r.1 r.2)
   | some (c,want) =>
     match st.fr.get c with
     | .bool t=>if t=want then(zab gl cl st o.d o.m).bind fun r=>zbx gl cl l (st.upd o.d r.1 r.2)else zbx gl cl l (st.upd o.d (.tup []) [])
     | .tup []=>zbx gl cl l (st.upd o.d (.tup []) [])
     | _=>none
def zm4 (gl:Gl)(cl:Cl)(d:Option Nat)(l:List FO)(st:St):Option (AV×Hp)->Option St
 | some (v,us)=>zbx gl cl l (st.upd d v us)
 | none=>none
section
variable {gl :Gl} {cl:Cl} {st:St}
theorem zm7 :∀{l:List FO} {st:St},(zbp gl cl l st).map (·.1)=zbx gl cl l st
 | [],st=>rfl
 | o::l,st=>by
   have ih:=fun st=>zm7 (l:=l) (st:=st)
   obtain⟨d,m,g⟩:=o
   cases g with
   | none=>simp only[zbp,zbx];cases zab gl cl st d m<;>simp[<-ih,Function.comp_def]
   | some p =>
     obtain⟨c,want⟩:=p
     simp only[zbp,zbx]
     cases st.fr.get c with
     | bool t=>by_cases h:t=want<;>simp only[h,if_true,if_false]<;>first|(cases zab gl cl st d m<;>simp[<-ih,Function.comp_def];done)|simp[<-ih,Function.comp_def]
     | tup l=>cases l<;>simp[<-ih,Function.comp_def]
     | _=>rfl
theorem zlt {l:List FO}:evC gl cl (.draw l []) st=z9b (zbx gl cl l st):=by
 rw[evC,<-zm7];rcases zbp gl cl l st with _|⟨_,_⟩<;>rfl
theorem zht :zbx gl cl [] st=some st:=rfl
theorem zi7 {d:Option Nat}{m:MOp}{l:List FO}:zbx gl cl (⟨d,m,none⟩::l) st=zm4 gl cl d l st (zab gl cl st d m):=by
 rw[zbx];rcases zab gl cl st d m with _|⟨_,_⟩<;>rfl
theorem zhr {d:Option Nat}{l:List FO}{v:AV}{us:Hp}:zm4 gl cl d l st (some (v,us))=zbx gl cl l (st.upd d v us):=by rw[zm4]
end
theorem qau {gl:Gl}{cl:Cl}{fd:Fd}{args:List AV}(hg:zln fd.pk=false):evFn gl cl fd args []=fnK fd (evC gl cl fd.body {fr:=frOf 0 args,hp:=[]}):=by
 rw[evFn,hg];simp only[wB,if_false];rcases evC gl cl fd.body _ with _|⟨_|_|_,_⟩<;>rfl
theorem qbd {gl:Gl}{tab:Nat->Option Fd}{n f:Nat}{args:List AV}{fd:Fd}(h:tab f=some fd)(hg:zln fd.pk=false)(hv:fd.giv=none:=by rfl):call gl tab (n+1) f args []=fnK fd (evC gl (call gl tab n) fd.body {fr:=frOf 0 args,hp:=[]}):=by
 rw[call,h];simp only[wE,hv];exact qau hg
theorem zf7 {gl:Gl}{tab:Nat->Option Fd}{n f:Nat}{args:List AV}{imps:Hp}{fd:Fd}{g}(h:tab f=some fd)(hv:fd.giv=some g:=by rfl):call gl tab (n+1) f args imps=g gl (call gl tab n) args imps:=by
 rw[call,h];simp only[wE,hv]
theorem zll {f:St->Option (Ex×St)}{ks:List Kp}{n:Nat}{st st1 st2:St}(h:zdc ks st=some st1)(hf:f st1=some (.norm,st2)):iter f ks (n+1) st=iter f ks n st2:=by
 rw[iter,h];simp[hf]
theorem zkf {f:St->Option (Ex×St)}{ks:List Kp}{n:Nat}{st st1 st2:St}{e:Ex}(h:zdc ks st=some st1)(hf:f st1=some (e,st2))(he:e≠.norm):iter f ks (n+1) st=some (e,st2):=by
 rw[iter,h];cases e<;>simp_all
theorem z4i {f:St->Option (Ex×St)}{ks:List Kp}(S:Nat->St)(N:Nat){st out:St}{e:Ex}(hN:N<LF)
  (h0:zdc ks st=some (S 0)) (hs:∀i,i<N->∃st2,f (S i)=some (.norm,st2)/\zdc ks st2=some (S (i+1))) (he:f (S N)=some (e,out)) (hne:e≠.norm) :
  iter f ks LF st=some (e,out):=by
 have key:∀(d i n:Nat) (st:St),i+d=N->d<n->zdc ks st=some (S i)->iter f ks n st=some (e,out):=by
  intro d
  induction d with
  | zero =>
    intro i n st hi hn hc
    obtain⟨n,rfl⟩:∃m,n=m+1:=⟨n-1,by omega⟩
    have:i=N:=by omega
    subst this
    exact zkf hc he hne
  | succ d ih =>
    intro i n st hi hn hc
    obtain⟨n,rfl⟩:∃m,n=m+1:=⟨n-1,by omega⟩
    obtain⟨st2,h1,h2⟩:=hs i (by omega)
    rw[zll hc h1]
    exact ih (i+1) n st2 (by omega) (by omega) h2
 exact key N 0 LF st (by omega) hN h0
end Go.Ev
namespace Go.Ev
open Go
def finK (res:List ResD)(pk:List Pk):Option (Ex×St)->Option (AV×Hp×List OB)
 | some (.norm,st)|some (.ret,st)=>(zgn st res pk).map fun z=>(match z.1 with|[a]=>a|l=>.tup l,[],z.2)
 | _=>none
theorem zah {gl:Gl}{tab:Nat->Option Fd}{n f:Nat}{args:List AV}{fd:Fd}(h:tab f=some fd)(hg:zln fd.pk=false:=by rfl)(hv:fd.giv=none:=by rfl):call gl tab (n+1) f args []=finK fd.res fd.pk (evC gl (call gl tab n) fd.body {fr:=frOf 0 args,hp:=[]}):=by
 rw[qbd h hg hv];rcases evC gl (call gl tab n) fd.body _ with _|⟨_|_|_,_⟩<;>rfl
def resK :Option (List AV×List OB)->Option (AV×Hp×List OB)
 | some ([a],es)=>some (a,[],es)
 | some (l,es)=>some (.tup l,[],es)
 | none=>none
theorem z04 {res:List ResD}{pk:List Pk}{st:St}:finK res pk (some (.norm,st))=resK (zgn st res pk):=by
 simp only[finK];rcases zgn st res pk with _|⟨_|⟨a,_|⟨b,l⟩⟩,es⟩<;>rfl
theorem z48 {res:List ResD}{pk:List Pk}{st:St}:finK res pk (some (.ret,st))=resK (zgn st res pk):=by
 simp only[finK];rcases zgn st res pk with _|⟨_|⟨a,_|⟨b,l⟩⟩,es⟩<;>rfl
theorem z3i {a:AV}{es:List OB}:resK (some ([a],es))=some (a,[],es):=rfl
theorem z3j {es:List OB}:resK (some ([],es))=some (.tup [],[],es):=rfl
theorem z3h {a b:AV}{l:List AV}{es:List OB}:resK (some (a::b::l,es))=some (.tup (a::b::l),[],es):=rfl
def qa7 (a:AV):Option (List AV)->Option (List AV)
 | some l=>some (a::l)
 | none=>none
def z80 (st:St)(rs:List ResD):Option AV->Option (List AV)
 | some a=>qa7 a (zba st rs)
 | none=>none
theorem zr4 {st:St}:zba st []=some []:=rfl
theorem zpx {st:St}{r:ResD}{rs:List ResD}:zba st (r::rs)=z80 st rs (zex st r):=by
 rw[zba];rcases zex st r with _|a
 . rfl
 . simp only[wE,z80];rcases zba st rs with _|l<;>rfl
theorem zvq {st:St}{rs:List ResD}{a:AV}:z80 st rs (some a)=qa7 a (zba st rs):=rfl
theorem zw9 {a:AV}{l:List AV}:qa7 a (some l)=some (a::l):=rfl
def fstK :Option (AV×Hp)->Option AV
 | some q=>some q.1
 | none=>none
theorem z02 {a:AV}{us:Hp}:fstK (some (a,us))=some a:=rfl
theorem zr3 {st:St}{t:Nat}:zex st (.tmp t)=some (st.fr.get t):=rfl
theorem zpw {st:St}{t n:Nat}{ag:Bool}:zex st (.cell t ag n)=fstK (zab Gl.none (fun _ _ _=>none) st none (.load ag n (.t t))):=by
 rw[zex];rcases zab _ _ st none _ with _|⟨a,b⟩<;>rfl
def z6g (st:St)(pks:List Pk):Option (List AV)->Option (List AV×List OB)
 | some rs=>if zgb (zdu rs pks)then zd0 st.hp (zj2 (zdu rs pks)++st.hp) 0 rs pks else none
 | none=>none
theorem z3x {st:St}{res:List ResD}{pks:List Pk}:zgn st res pks=z6g st pks (zba st res):=by
 rw[zgn];rcases zba st res with _|rs<;>rfl
theorem zr7 {st:St}{pks:List Pk}{rs:List AV}:z6g st pks (some rs)=if zgb (zdu rs pks)then zd0 st.hp (zj2 (zdu rs pks)++st.hp) 0 rs pks else none:=rfl
def prK (hp hp':Hp)(j:Nat)(rs:List AV)(pks:List Pk):Option (AV×List OB)->Option (List AV×List OB)
 | some (a,es)=>(zd0 hp hp' (j+es.length) rs pks).map fun z=>(a::z.1,es++z.2)
 | none=>none
theorem zvu {hp hp':Hp}{j:Nat}{pks:List Pk}:zd0 hp hp' j [] pks=some ([],[]):=by cases pks<;>rfl
theorem zr8 {hp hp':Hp}{j:Nat}{r:AV}{rs:List AV}{pks:List Pk}:zd0 hp hp' j (r::rs) pks=prK hp hp' j rs pks.tail (zib hp hp' j r (pks.headD .asis)):=by
 rw[zd0];rcases zib hp hp' j r (pks.headD .asis)with _|⟨a,es⟩<;>rfl
theorem z3t {hp hp':Hp}{j:Nat}{rs:List AV}{pks:List Pk}{a:AV}{es:List OB}:prK hp hp' j rs pks (some (a,es))=(zd0 hp hp' (j+es.length) rs pks).map fun z=>(a::z.1,es++z.2):=rfl
def qfp :Option AV->Option (AV×List OB)
 | some a=>if a.known then some (a,[])else none
 | none=>none
theorem zvv {hp hp':Hp}{j:Nat}{r:AV}:zib hp hp' j r .asis=qfp (zau hp' 4 r):=by
 rw[zib];rcases zau hp' 4 r with _|a<;>rfl
theorem zxk {a:AV}:qfp (some a)=if a.known then some (a,[])else none:=rfl
end Go.Ev
namespace Go.Ev
open Go
theorem z5e {gl:Gl}{cl:Cl}{ks:List Kp}{b:MC}{st:St}:evC gl cl (.loop ks b) st=iter (evC gl cl b) ks LF st:=rfl
end Go.Ev
namespace Go.Ev
open Go
def zbn (ks:List Kp):Option (Ex×St)->Option St
 | some (.norm,st)=>zdc ks st
 | _=>none
theorem zw7 {ks:List Kp}{st:St}:zbn ks (some (.norm,st))=zdc ks st:=rfl
def isEx :Option (Ex×St)->Bool
 | some (.exit _,_)=>true
 | some (.ret,_)=>true
 | _=>false
theorem zz1 {i:Nat}{st:St}:isEx (some (.exit i,st))=true:=rfl
theorem z4j {st:St}:isEx (some (.ret,st))=true:=rfl
theorem zam {f:St->Option (Ex×St)}{ks:List Kp}(S:Nat->St)(N:Nat){st:St}(hN:N<LF)(h0:zdc ks st=some (S 0))(hs:∀i,i<N->zbn ks (f (S i))=some (S (i+1)))(he:isEx (f (S N))=true) :
  iter f ks LF st=f (S N):=by
 cases h:f (S N)with
 | none=>rw[h]at he;cases he
 | some r =>
   obtain⟨e,out⟩:=r
   refine z4i S N hN h0 (fun i hi=> ?_) h (by rw[h]at he;cases e<;>simp_all[isEx])
   have:=hs i hi
   unfold zbn at this
   split at this
   . rename_i st2 h2;exact⟨st2,h2,this⟩
   . cases this
end Go.Ev
namespace Go.Ev
open Go
def qa8 (gl:Gl)(cl:Cl)(a b:MC)(st:St):AV->Option (Ex×St)
 | .bool true=>evC gl cl a st
 | .bool false=>evC gl cl b st
 | _=>none
theorem z1a {gl:Gl}{cl:Cl}{c:Opd}{a b:MC}{st:St}:evC gl cl (.cond c a b) st=qa8 gl cl a b st (c.val gl st.fr):=by
 rw[evC];cases c.val gl st.fr<;>first|rfl|(rename_i t;cases t<;>rfl)
theorem zxa {gl:Gl}{cl:Cl}{a b:MC}{st:St}:qa8 gl cl a b st (.bool true)=evC gl cl a st:=rfl
theorem zsz {gl:Gl}{cl:Cl}{a b:MC}{st:St}:qa8 gl cl a b st (.bool false)=evC gl cl b st:=rfl
def zp6 (x:AV):Option AV:=if x.plain then some x else none
def iteC (gl:Gl)(a:Opd):Option St->Option AV
 | some st1=>zp6 (a.val gl st1.fr)
 | none=>none
def iteS (gl:Gl)(cl:Cl)(w t:Bool)(blk:Its)(a b:Opd)(st:St):Option AV :=
 if t=w then iteC gl (if w then a else b) (zbm gl cl blk st)else some ((if w then b else a).val gl st.fr)
def iteD (gl:Gl)(cl:Cl)(w:Bool)(blk:Its)(lo hi d:Nat)(a b:Opd)(rest:Its)(st:St):AV->Option St
 | .bool t=>iteK gl cl lo hi d rest st (iteS gl cl w t blk a b st)
 | _=>none
def zgt (gl:Gl)(cl:Cl)(d:Option Nat)(m:MOp)(w:Bool)(l:List FO)(st:St):AV->Option St
 | .bool t=>if t=w then zm4 gl cl d l st (zab gl cl st d m)else zbx gl cl l (st.upd d (.tup []) [])
 | .tup []=>zbx gl cl l (st.upd d (.tup []) [])
 | _=>none
section
variable {gl :Gl} {cl:Cl} {st:St}
theorem z08 {c:Nat}{w:Bool}{blk:Its}{lo hi d:Nat}{a b:Opd}{rest:Its} :
  zbm gl cl (.ite c w blk lo hi d a b rest) st=iteD gl cl w blk lo hi d a b rest st (st.fr.get c):=by
 rw[zbm]
 cases st.fr.get c with
 | bool t =>
   simp only[iteD,iteS]
   split
   . cases w<;>(simp only[if_true,if_false,wB];cases zbm gl cl blk st with
      | none=>rfl
      | some st1=>simp only[wE,iteC,zp6];split<;>rfl)
   . rfl
 | _=>rfl
theorem zzz {t w:Bool}{blk:Its}{lo hi d:Nat}{a b:Opd}{rest:Its}:iteD gl cl w blk lo hi d a b rest st (.bool t)=iteK gl cl lo hi d rest st (iteS gl cl w t blk a b st):=rfl
theorem z9y {blk:Its}{a b:Opd}:iteS gl cl true true blk a b st=iteC gl a (zbm gl cl blk st):=rfl
theorem z91 {blk:Its}{a b:Opd}:iteS gl cl false false blk a b st=iteC gl b (zbm gl cl blk st):=rfl
theorem z9z {blk:Its}{a b:Opd}:iteS gl cl true false blk a b st=some (b.val gl st.fr):=rfl
theorem z90 {blk:Its}{a b:Opd}:iteS gl cl false true blk a b st=some (a.val gl st.fr):=rfl
theorem zz0 {a:Opd}{st1:St}:iteC gl a (some st1)=zp6 (a.val gl st1.fr):=rfl
theorem zr6 {b:Bool}:zp6 (.bool b)=some (.bool b):=rfl
theorem zvs {k:IntKind}{n:Int}:zp6 (.int k n)=some (.int k n):=rfl
theorem zzy {lo hi d:Nat}{rest:Its}{x:AV}:iteK gl cl lo hi d rest st (some x)=zbm gl cl rest {fr:=.set d x::.clr lo hi::st.fr,hp:=st.hp}:=rfl
theorem zoy {d:Option Nat}{m:MOp}{c:Nat}{w:Bool}{l:List FO}:zbx gl cl (⟨d,m,some (c,w)⟩::l) st=zgt gl cl d m w l st (st.fr.get c):=by
 rw[zbx]
 simp only
 generalize st.fr.get c=v
 cases v with
 | bool t =>
   simp only[zgt]
   by_cases h:t=w
   . simp only[h,if_true];rcases zab gl cl st d m with _|⟨_,_⟩<;>rfl
   . simp only[h,if_false]
 | tup l=>cases l<;>rfl
 | _=>rfl
theorem z0f {d:Option Nat}{m:MOp}{l:List FO}:zgt gl cl d m true l st (.bool true)=zm4 gl cl d l st (zab gl cl st d m):=by rw[zgt,if_pos rfl]
theorem z0i {d:Option Nat}{m:MOp}{l:List FO}:zgt gl cl d m false l st (.bool false)=zm4 gl cl d l st (zab gl cl st d m):=by rw[zgt,if_pos rfl]
theorem z0g {d:Option Nat}{m:MOp}{l:List FO}:zgt gl cl d m true l st (.bool false)=zbx gl cl l (st.upd d (.tup []) []):=by rw[zgt,if_neg (by decide)]
theorem z0h {d:Option Nat}{m:MOp}{l:List FO}:zgt gl cl d m false l st (.bool true)=zbx gl cl l (st.upd d (.tup []) []):=by rw[zgt,if_neg (by decide)]
end
end Go.Ev
namespace Go.Ev
open Go
def mapG :Option (List AV×Hp×List OB)->Option (AV×Hp×List OB)
 | some (l,hp,es)=>some (zn9 l,hp,es)
 | none=>none
def genK (st:St)(hk:List Nat):Option (List AV)->Option (AV×Hp×List OB)
 | some rs=>mapG (ze8 st hk rs (zco st hk rs))
 | none=>none
def finG (res:List ResD)(hk:List Nat):Option (Ex×St)->Option (AV×Hp×List OB)
 | some (.norm,st)|some (.ret,st)=>genK st hk (zba st res)
 | _=>none
theorem zbe {gl:Gl}{tab:Nat->Option Fd}{n f:Nat}{args:List AV}{imps:Hp}{fd:Fd}(h:tab f=some fd)(hg:zln fd.pk=true:=by rfl)(hm:mcLt fd.body=true:=by rfl)(hv:fd.giv=none:=by rfl) :
  call gl tab (n+1) f args imps=finG fd.res (zch imps) (evC gl (call gl tab n) fd.body {fr:=frOf 0 args,hp:=imps}):=by
 have key:∀st:St,((zba st fd.res).bind fun rs=>(ze8 st (zch imps) rs (zco st (zch imps) rs)).map fun z=>(zn9 z.1,z.2.1,z.2.2))=genK st (zch imps) (zba st fd.res):=fun st=>by
  rcases zba st fd.res with _|rs
  . rfl
  . simp only[wE,genK]
    rcases ze8 st (zch imps) rs (zco st (zch imps) rs)with _|⟨_,_,_⟩<;>rfl
 rw[call,h]
 simp only[wE,hv,evFn,hg,hm,if_true,wD,wB,if_false]
 rcases evC gl (call gl tab n) fd.body _ with _|⟨_|_|_,st⟩
 . rfl
 . exact key st
 . rfl
 . exact key st
theorem z05 {res:List ResD}{hk:List Nat}{st:St}:finG res hk (some (.norm,st))=genK st hk (zba st res):=rfl
theorem z49 {res:List ResD}{hk:List Nat}{st:St}:finG res hk (some (.ret,st))=genK st hk (zba st res):=rfl
theorem z01 {st:St}{hk:List Nat}{rs:List AV}:genK st hk (some rs)=mapG (ze8 st hk rs (zco st hk rs)):=rfl
theorem zzd {l:List AV}{hp:Hp}{es:List OB}:mapG (some (l,hp,es))=some (zn9 l,hp,es):=rfl
end Go.Ev
namespace Go.Ev
open Go
theorem znb (w:Nat)(a:Int):a%(2^w:Int)=((BitVec.ofInt w a).toNat:Int):=by
 rw[wJ]
 have h:(0:Int)<2^w:=wR (by omega)
 have h1:=Int.emod_nonneg a (Int.ne_of_gt h)
 have e:((2^w:Nat):Int)=(2:Int)^w:=by simp
 rw[e]
 exact(Int.toNat_of_nonneg h1).symm
theorem zdq {w:Nat}(x:BitVec w):BitVec.ofInt w (x.toNat:Int)=x:=by simp
theorem zmj (w:Nat)(a b:Int):BitVec.ofInt w (a-b)=BitVec.ofInt w a-BitVec.ofInt w b:=by
 rw[Int.sub_eq_add_neg,wL,BitVec.ofInt_neg,BitVec.sub_eq_add_neg]
theorem zjy {k:IntKind}(hs:k.signed=false)(a:Int):k.wrap a=((BitVec.ofInt k.bits a).toNat:Int):=by
 rw[<-znb];simp[IntKind.wrap,hs]
section
variable {k :IntKind} (hs:k.signed=false)
include hs
theorem andU (a b:Int):zao .and k a b=some (.int k ((BitVec.ofInt k.bits a&&&BitVec.ofInt k.bits b).toNat:Int)):=by
 simp only[zao,zjy hs,zdq]
theorem orU (a b:Int):zao .or k a b=some (.int k ((BitVec.ofInt k.bits a|||BitVec.ofInt k.bits b).toNat:Int)):=by
 simp only[zao,zjy hs,zdq]
theorem xorU (a b:Int):zao .xor k a b=some (.int k ((BitVec.ofInt k.bits a^^^BitVec.ofInt k.bits b).toNat:Int)):=by
 simp only[zao,zjy hs,zdq]
theorem addU (a b:Int):zao .add k a b=some (.int k ((BitVec.ofInt k.bits a+BitVec.ofInt k.bits b).toNat:Int)):=by
 simp only[zao,zjy hs,wL]
theorem subU (a b:Int):zao .sub k a b=some (.int k ((BitVec.ofInt k.bits a-BitVec.ofInt k.bits b).toNat:Int)):=by
 simp only[zao,zjy hs,zmj]
theorem mulU (a b:Int):zao .mul k a b=some (.int k ((BitVec.ofInt k.bits a*BitVec.ofInt k.bits b).toNat:Int)):=by
 simp only[zao,zjy hs,wK]
theorem shlU (a b:Int)(h:0<=b):zbw .shl k a b=some (.int k ((BitVec.ofInt k.bits a<<<b.toNat).toNat:Int)):=by
 have h':¬b<0:=by omega
 simp only[zbw,h',if_false,zjy hs]
 have e:BitVec.ofInt k.bits (a*2^min b.toNat k.bits)=BitVec.ofInt k.bits a<<<b.toNat:=by
  rw[wK]
  rcases Nat.lt_or_ge b.toNat k.bits with hb|hb
  . rw[wV (Nat.le_of_lt hb)]
    have:BitVec.ofInt k.bits (2^b.toNat)=BitVec.twoPow k.bits b.toNat:=by
     rw[show(2:Int)^b.toNat=((2^b.toNat:Nat):Int) by simp,wG,BitVec.twoPow_eq]
     apply wF
     simp[Nat.shiftLeft_eq]
    rw[this,BitVec.mul_twoPow_eq_shiftLeft]
  . rw[wU hb,BitVec.shiftLeft_eq_zero hb]
    have:BitVec.ofInt k.bits (2^k.bits)=0#k.bits:=by
     rw[show(2:Int)^k.bits=((2^k.bits:Nat):Int) by simp,wG]
     apply wF
     simp
    rw[this,BitVec.mul_zero]
 rw[e]
omit hs in
theorem shrU {k:IntKind}(x:BitVec k.bits)(b:Int)(h:0<=b):zbw .shr k (x.toNat:Int) b=some (.int k ((x>>>b.toNat).toNat:Int)):=by
 have h':¬b<0:=by omega
 simp only[zbw,h',if_false]
 have e:((x.toNat:Int)).fdiv (2^min b.toNat k.bits)=((x>>>b.toNat).toNat:Int):=by
  rw[BitVec.toNat_ushiftRight,Nat.shiftRight_eq_div_pow,wN _ (wT (wR (by omega)))]
  rw[show(2:Int)^min b.toNat k.bits=((2^min b.toNat k.bits:Nat):Int) by simp,<-Int.natCast_ediv]
  congr 1
  rcases w0 b.toNat k.bits with hb|hb
  . rw[wV hb]
  . rw[wU hb,wZ x.isLt,wZ (Nat.lt_of_lt_of_le x.isLt (wW (by omega) hb))]
 rw[e]
theorem notU (a:Int):k.wrap ((BitVec.ofInt k.bits (if k.signed then -1 else k.max)^^^BitVec.ofInt k.bits a).toNat)=((~~~ BitVec.ofInt k.bits a).toNat:Int):=by
 rw[zjy hs,zdq]
 congr 2
 have:BitVec.ofInt k.bits (if k.signed then -1 else k.max)=BitVec.allOnes k.bits:=by
  rw[hs]
  simp only[wB,if_false,IntKind.max,hs]
  rw[zmj,show(2:Int)^k.bits=((2^k.bits:Nat):Int) by simp,wG]
  have:BitVec.ofNat k.bits (2^k.bits)=0#k.bits:=by apply wF;simp
  rw[this,BitVec.zero_sub,<-BitVec.neg_one_eq_allOnes]
  rfl
 rw[this,BitVec.allOnes_xor]
end
theorem z7g (a:Int):IntKind.wrap .u8 a=((BitVec.ofInt 8 a).toNat:Int):=zjy rfl a
theorem qfq (a b:Int):zao .and .u8 a b=some (.int .u8 ((BitVec.ofInt 8 a&&&BitVec.ofInt 8 b).toNat:Int)):=andU rfl a b
theorem qgg (a b:Int):zao .or .u8 a b=some (.int .u8 ((BitVec.ofInt 8 a|||BitVec.ofInt 8 b).toNat:Int)):=orU rfl a b
theorem qb2 (a b:Int):zao .xor .u8 a b=some (.int .u8 ((BitVec.ofInt 8 a^^^BitVec.ofInt 8 b).toNat:Int)):=xorU rfl a b
theorem qfs (a b:Int):zao .add .u8 a b=some (.int .u8 ((BitVec.ofInt 8 a+BitVec.ofInt 8 b).toNat:Int)):=addU rfl a b
theorem qcf (a b:Int):zao .sub .u8 a b=some (.int .u8 ((BitVec.ofInt 8 a-BitVec.ofInt 8 b).toNat:Int)):=subU rfl a b
theorem qdm (a b:Int):zao .mul .u8 a b=some (.int .u8 ((BitVec.ofInt 8 a*BitVec.ofInt 8 b).toNat:Int)):=mulU rfl a b
theorem qcu (a b:Int)(h:0<=b):zbw .shl .u8 a b=some (.int .u8 ((BitVec.ofInt 8 a<<<b.toNat).toNat:Int)):=shlU rfl a b h
theorem qct (x:BitVec 8)(b:Int)(h:0<=b):zbw .shr .u8 (x.toNat:Int) b=some (.int .u8 ((x>>>b.toNat).toNat:Int)):=shrU (k:=.u8) x b h
theorem qdh (a:Int):IntKind.wrap .u8 ((BitVec.ofInt (IntKind.bits .u8) (if IntKind.signed .u8 then -1 else IntKind.max .u8)^^^BitVec.ofInt (IntKind.bits .u8) a).toNat)=((~~~ BitVec.ofInt 8 a).toNat:Int):=notU rfl a
theorem z2k (a:Int):IntKind.wrap .u16 a=((BitVec.ofInt 16 a).toNat:Int):=zjy rfl a
theorem qbr (a b:Int):zao .and .u16 a b=some (.int .u16 ((BitVec.ofInt 16 a&&&BitVec.ofInt 16 b).toNat:Int)):=andU rfl a b
theorem qc8 (a b:Int):zao .or .u16 a b=some (.int .u16 ((BitVec.ofInt 16 a|||BitVec.ofInt 16 b).toNat:Int)):=orU rfl a b
theorem z7e (a b:Int):zao .xor .u16 a b=some (.int .u16 ((BitVec.ofInt 16 a^^^BitVec.ofInt 16 b).toNat:Int)):=xorU rfl a b
theorem qbv (a b:Int):zao .add .u16 a b=some (.int .u16 ((BitVec.ofInt 16 a+BitVec.ofInt 16 b).toNat:Int)):=addU rfl a b
theorem z7y (a b:Int):zao .sub .u16 a b=some (.int .u16 ((BitVec.ofInt 16 a-BitVec.ofInt 16 b).toNat:Int)):=subU rfl a b
theorem z9f (a b:Int):zao .mul .u16 a b=some (.int .u16 ((BitVec.ofInt 16 a*BitVec.ofInt 16 b).toNat:Int)):=mulU rfl a b
theorem z8k (a b:Int)(h:0<=b):zbw .shl .u16 a b=some (.int .u16 ((BitVec.ofInt 16 a<<<b.toNat).toNat:Int)):=shlU rfl a b h
theorem z8g (x:BitVec 16)(b:Int)(h:0<=b):zbw .shr .u16 (x.toNat:Int) b=some (.int .u16 ((x>>>b.toNat).toNat:Int)):=shrU (k:=.u16) x b h
theorem z9a (a:Int):IntKind.wrap .u16 ((BitVec.ofInt (IntKind.bits .u16) (if IntKind.signed .u16 then -1 else IntKind.max .u16)^^^BitVec.ofInt (IntKind.bits .u16) a).toNat)=((~~~ BitVec.ofInt 16 a).toNat:Int):=notU rfl a
theorem z2j (a:Int):IntKind.wrap .u32 a=((BitVec.ofInt 32 a).toNat:Int):=zjy rfl a
theorem qbq (a b:Int):zao .and .u32 a b=some (.int .u32 ((BitVec.ofInt 32 a&&&BitVec.ofInt 32 b).toNat:Int)):=andU rfl a b
theorem qc7 (a b:Int):zao .or .u32 a b=some (.int .u32 ((BitVec.ofInt 32 a|||BitVec.ofInt 32 b).toNat:Int)):=orU rfl a b
theorem z7d (a b:Int):zao .xor .u32 a b=some (.int .u32 ((BitVec.ofInt 32 a^^^BitVec.ofInt 32 b).toNat:Int)):=xorU rfl a b
theorem qbu (a b:Int):zao .add .u32 a b=some (.int .u32 ((BitVec.ofInt 32 a+BitVec.ofInt 32 b).toNat:Int)):=addU rfl a b
theorem z7x (a b:Int):zao .sub .u32 a b=some (.int .u32 ((BitVec.ofInt 32 a-BitVec.ofInt 32 b).toNat:Int)):=subU rfl a b
theorem z9e (a b:Int):zao .mul .u32 a b=some (.int .u32 ((BitVec.ofInt 32 a*BitVec.ofInt 32 b).toNat:Int)):=mulU rfl a b
theorem z8j (a b:Int)(h:0<=b):zbw .shl .u32 a b=some (.int .u32 ((BitVec.ofInt 32 a<<<b.toNat).toNat:Int)):=shlU rfl a b h
theorem z8f (x:BitVec 32)(b:Int)(h:0<=b):zbw .shr .u32 (x.toNat:Int) b=some (.int .u32 ((x>>>b.toNat).toNat:Int)):=shrU (k:=.u32) x b h
theorem z89 (a:Int):IntKind.wrap .u32 ((BitVec.ofInt (IntKind.bits .u32) (if IntKind.signed .u32 then -1 else IntKind.max .u32)^^^BitVec.ofInt (IntKind.bits .u32) a).toNat)=((~~~ BitVec.ofInt 32 a).toNat:Int):=notU rfl a
theorem zte (a:Int):IntKind.wrap .u64 a=((BitVec.ofInt 64 a).toNat:Int):=zjy rfl a
theorem qbp (a b:Int):zao .and .u64 a b=some (.int .u64 ((BitVec.ofInt 64 a&&&BitVec.ofInt 64 b).toNat:Int)):=andU rfl a b
theorem qc6 (a b:Int):zao .or .u64 a b=some (.int .u64 ((BitVec.ofInt 64 a|||BitVec.ofInt 64 b).toNat:Int)):=orU rfl a b
theorem z7c (a b:Int):zao .xor .u64 a b=some (.int .u64 ((BitVec.ofInt 64 a^^^BitVec.ofInt 64 b).toNat:Int)):=xorU rfl a b
theorem qbt (a b:Int):zao .add .u64 a b=some (.int .u64 ((BitVec.ofInt 64 a+BitVec.ofInt 64 b).toNat:Int)):=addU rfl a b
theorem z7w (a b:Int):zao .sub .u64 a b=some (.int .u64 ((BitVec.ofInt 64 a-BitVec.ofInt 64 b).toNat:Int)):=subU rfl a b
theorem z9d (a b:Int):zao .mul .u64 a b=some (.int .u64 ((BitVec.ofInt 64 a*BitVec.ofInt 64 b).toNat:Int)):=mulU rfl a b
theorem z8i (a b:Int)(h:0<=b):zbw .shl .u64 a b=some (.int .u64 ((BitVec.ofInt 64 a<<<b.toNat).toNat:Int)):=shlU rfl a b h
theorem z8e (x:BitVec 64)(b:Int)(h:0<=b):zbw .shr .u64 (x.toNat:Int) b=some (.int .u64 ((x>>>b.toNat).toNat:Int)):=shrU (k:=.u64) x b h
theorem z88 (a:Int):IntKind.wrap .u64 ((BitVec.ofInt (IntKind.bits .u64) (if IntKind.signed .u64 then -1 else IntKind.max .u64)^^^BitVec.ofInt (IntKind.bits .u64) a).toNat)=((~~~ BitVec.ofInt 64 a).toNat:Int):=notU rfl a
theorem za1 {a:Int}(h1:-9223372036854775808<=a)(h2:a<=9223372036854775807):IntKind.wrap .i64 a=a:=by
 simp only[IntKind.wrap,IntKind.bits,IntKind.signed,wC]
 simp only[wX,Int.reducePow]
 split<;>simp_all<;>omega
theorem zfq (x:BitVec 64):IntKind.wrap .i64 (x.toNat:Int)=x.toInt:=by
 simp only[IntKind.wrap,IntKind.bits,IntKind.signed,wC,wM]
 have:=x.isLt
 simp only[wX,Int.reducePow]
 split<;>simp_all<;>omega
theorem zey {w:Nat}(hw:w<=64)(x:BitVec 64):BitVec.ofInt w x.toInt=x.setWidth w:=by
 apply wF
 rw[BitVec.toNat_setWidth,wJ,wM]
 have hd:((2:Nat)^w) ∣ 2^64:=Nat.pow_dvd_pow 2 hw
 obtain⟨c,hc⟩:=hd
 have e:((2^64:Nat):Int)=((2^w:Nat):Int)*(c:Int):=by rw[hc];exact Int.natCast_mul _ _
 split
 . rw[<-wS];rfl
 . rw[e,Int.sub_mul_emod_self_left,<-wS];rfl
theorem sw8 (x:BitVec 64):BitVec.ofInt 8 x.toInt=x.setWidth 8:=zey (by omega) x
theorem sw16 (x:BitVec 64):BitVec.ofInt 16 x.toInt=x.setWidth 16:=zey (by omega) x
theorem sw32 (x:BitVec 64):BitVec.ofInt 32 x.toInt=x.setWidth 32:=zey (by omega) x
theorem sw64 (x:BitVec 64):BitVec.ofInt 64 x.toInt=x:=BitVec.ofInt_toInt
theorem qbs (a b:Int):zao .and .i64 a b=some (.int .i64 (BitVec.ofInt 64 a&&&BitVec.ofInt 64 b).toInt):=by
 simp only[zao];rw[show IntKind.bits .i64=64 from rfl,zfq]
theorem qc9 (a b:Int):zao .or .i64 a b=some (.int .i64 (BitVec.ofInt 64 a|||BitVec.ofInt 64 b).toInt):=by
 simp only[zao];rw[show IntKind.bits .i64=64 from rfl,zfq]
theorem zhi (a:Int):IntKind.wrap .i64 a=(BitVec.ofInt 64 a).toInt:=by
 rw[<-zfq,<-znb]
 simp only[IntKind.wrap,IntKind.bits,Int.emod_emod]
 rfl
theorem z8h (x:BitVec 64)(b:Int)(h:0<=b):zbw .shr .i64 x.toInt b=some (.int .i64 (x.sshiftRight b.toNat).toInt):=by
 have h':¬b<0:=by omega
 simp only[zbw,h',if_false,BitVec.toInt_sshiftRight,IntKind.bits]
 congr 2
 rw[Int.shiftRight_eq_div_pow,wN _ (wT (wR (by omega)))]
 rcases w0 b.toNat 64 with hb|hb
 . rw[wV hb];simp
 . rw[wU hb]
   have h1:=x.toInt_lt
   have h2:=x.le_toInt
   have h3:(2:Nat)^64<=2^b.toNat:=wW (by omega) hb
   have h4:((2:Nat)^b.toNat:Int)=(2:Int)^b.toNat:=by simp
   by_cases hx:0<=x.toInt
   . rw[wQ hx (by omega),wQ hx (by omega)]
   . have e1:x.toInt/(2:Int)^64=-1:=by omega
     have e2:x.toInt/(((2:Nat)^b.toNat:Nat):Int)=-1:=by
      apply Int.ediv_eq_neg_one_of_neg_of_le<;>omega
     rw[e1,e2]
theorem qd6 {n:Int}(h1:-9223372036854775808<=n)(h2:n<=9223372036854775807):∃x:BitVec 64,n=x.toInt :=
 ⟨BitVec.ofInt 64 n,by rw[<-zhi,za1 h1 h2]⟩
theorem qbk (x:BitVec 64)(n:Nat)(h:n<2^64):((x.toNat:Int)==(n:Int))=(x==BitVec.ofNat 64 n):=by
 rw[Bool.eq_iff_iff,beq_iff_eq,beq_iff_eq,Int.natCast_inj]
 constructor
 . intro e;apply wF;rw[wH,wY h,e]
 . intro e;rw[e,wH,wY h]
theorem qbl (x:BitVec 64):((x.toNat:Int)==1)=(x==1#64):=qbk x 1 (by omega)
theorem zs4 (n m:Nat):((n:Int)<(no_index (OfNat.ofNat m:Int)))=(n<@OfNat.ofNat Nat m (instOfNatNat m)):=by
 apply propext;exact wO
theorem zs5 (n m:Nat):((n:Int)<=(no_index (OfNat.ofNat m:Int)))=(n<=@OfNat.ofNat Nat m (instOfNatNat m)):=by
 apply propext;exact wP
theorem zsf (n m:Nat):((no_index (OfNat.ofNat m:Int))<(n:Int))=(@OfNat.ofNat Nat m (instOfNatNat m)<n):=by
 apply propext;exact wO
theorem zsg (n m:Nat):((no_index (OfNat.ofNat m:Int))<=(n:Int))=(@OfNat.ofNat Nat m (instOfNatNat m)<=n):=by
 apply propext;exact wP
theorem qfn (k:IntKind)(a b:Int):zao .eql k a b=some (.bool (a==b)):=rfl
theorem qfi (k:IntKind)(a b:Int):zao .neq k a b=some (.bool (a != b)):=rfl
theorem qfj (k:IntKind)(a b:Int):zao .lss k a b=some (.bool (a<b)):=rfl
theorem qfk (k:IntKind)(a b:Int):zao .leq k a b=some (.bool (a<=b)):=rfl
theorem qfl (k:IntKind)(a b:Int):zao .gtr k a b=some (.bool (a>b)):=rfl
theorem qfm (k:IntKind)(a b:Int):zao .geq k a b=some (.bool (a>=b)):=rfl
theorem z52 (a b:Int):zao .add .i64 a b=some (.int .i64 (IntKind.wrap .i64 (a+b))):=rfl
theorem z50 (a b:Int):zao .sub .i64 a b=some (.int .i64 (IntKind.wrap .i64 (a-b))):=rfl
theorem z51 (a b:Int):zao .mul .i64 a b=some (.int .i64 (IntKind.wrap .i64 (a*b))):=rfl
theorem qfd (a b:List UInt8):ziq .eql a b=some (.bool (a==b)):=rfl
theorem qfc (a b:List UInt8):ziq .neq a b=some (.bool (!(a==b))):=rfl
theorem qff {a b:List UInt8}(h:a.length+b.length<=LIM):ziq .add a b=some (.str (a++b)):=by simp[ziq,h]
theorem zal (l:List UInt8):(zad l).length=l.length:=by simp[zad]
theorem zjv (l:List UInt8):(zad l).take l.length=zad l:=by rw[<-zal,w2]
theorem zl0 {l:List UInt8}{i:Nat}(h:i<l.length):(zad l)[i]? =some (.int .u8 (l[i].toBitVec.toNat:Int)):=by
 rw[zad,List.getElem?_map,List.getElem?_eq_getElem h];rfl
theorem zgw :∀(l:List UInt8),zgx (zad l)=some l
 | []=>rfl
 | b::l=>by
   have e:zad (b::l)= .int .u8 b.toNat::zad l:=rfl
   rw[e,zgx,byteOf,zgw l]
   simp
end Go.Ev
namespace Go.Ev
open Go
theorem zyw {hp hp':Hp}{j k n:Nat}{sh:Sh}:zib hp hp' j (.sl k [] 0 n) (.own sh)=(match hp.get k with
  | some (.grow sh' els)=>if Sh.beq sh sh'&&decide (n=els.length)then some (.sl (20000+j) [] 0 n,[.grow sh els])else none
  | _=>none):=rfl
theorem zvi {k:IntKind}{n:Int}:(AV.int k n).scalar=true:=rfl
theorem zrq {b:Bool}:(AV.bool b).scalar=true:=rfl
theorem zvf {b:List UInt8}:(AV.str b).scalar=true:=rfl
theorem zvh {b:Bool}{sh:Sh}{l:List AV}:(AV.lst b sh l).scalar=true:=rfl
theorem zx8 {k:Nat}{p:List Nat}{a b:Nat}:(AV.sl k p a b).scalar=true:=rfl
theorem zvg {k:Nat}{p:List Nat}:(AV.ptr k p).scalar=true:=rfl
theorem zvj {l:List AV}:(AV.agg l).scalar=false:=rfl
section
variable {hp :Hp} {n:Nat}
theorem zzj {k:IntKind}{x:Int}:zau hp n (.int k x)=some (.int k x):=by cases n<;>rfl
theorem zvz {b:Bool}:zau hp n (.bool b)=some (.bool b):=by cases n<;>rfl
theorem zzg {b:List UInt8}:zau hp n (.str b)=some (.str b):=by cases n<;>rfl
theorem z9u {v:Value}:zau hp n (.s v)=some (.s v):=by cases n<;>rfl
theorem zzk {l:List AV}:zau hp n (.agg l)=some (.agg l):=by cases n<;>rfl
theorem zzi {b:Bool}{sh:Sh}{l:List AV}:zau hp n (.lst b sh l)=some (.lst b sh l):=by cases n<;>rfl
theorem z4e {sh:Sh}{a:AV}:zau hp n (.cp sh a)=some (.cp sh a):=by cases n<;>rfl
theorem z4c {k:Nat}{p:List Nat}{off len:Nat}:zau hp (n+1) (.sl k p off len)=(zaz hp (.sl k p off len)).map fun c=>.lst false c.1 c.2:=rfl
def ptrK (hp:Hp)(n:Nat):Option Sh->Option AV->Option AV
 | some s,some x=>(zau hp n x).bind fun y=>if y.plain then some (.cp s y)else none
 | _,_=>none
def ptrO (hp:Hp)(n:Nat)(p:List Nat):Option OB->Option AV
 | some (.fix sh b)=>ptrK hp n (sh.sub p) (b.nav p)
 | _=>none
theorem zzh {k:Nat}{p:List Nat}:zau hp (n+1) (.ptr k p)=ptrO hp n p (hp.get k):=by
 show(match hp.get k with|some (.fix sh b)=>_|_=>none)=_
 rcases hp.get k with _|_|_|_<;>first|rfl|(simp only[ptrO];rcases Sh.sub _ _ with _|_<;>rcases AV.nav _ _ with _|_<;>rfl)
def aggK :Option (List AV)->Option AV
 | some l=>if AV.plains l then some (.agg l)else none
 | none=>none
theorem zv0 {l:List AV}:zau hp (n+1) (.aggR l)=aggK (mapO (zau hp n) l):=by
 show((mapO (zau hp n) l).bind fun l'=>if AV.plains l' then some (AV.agg l')else none)=_
 rcases mapO (zau hp n) l with _|_<;>rfl
theorem z4d {f:Nat}{l:List AV}:zau hp (n+1) (.fn f l)=(mapO (zau hp n) l).map (.fn f):=rfl
def qe8 :Option AV->Option (List AV)->Option (List AV)
 | some a,some l=>some (a::l)
 | _,_=>none
theorem zzc {f:AV->Option AV}{a:AV}{l:List AV}:mapO f (a::l)=qe8 (f a) (mapO f l):=by
 rw[mapO];rcases f a with _|_
 . rfl
 . rcases mapO f l with _|_<;>rfl
theorem zw8 {a:AV}{l:List AV}:qe8 (some a) (some l)=some (a::l):=rfl
theorem z32 {f:AV->Option AV}:mapO f []=some []:=rfl
def retK (args:List AV)(hp:Hp)(d:Nat):Option (AV×Hp×List OB)->Option (AV×Hp)
 | some (r,[],[])=>if AV.plains args||zcw r then some (r,[])else none
 | some (r,[],e::es)=>if AV.plains args||(zcw r&&(e::es).all zez)then(zb7 hp d 0 (e::es)).map fun us=>(rn d r,us)else none
 | _=>none
def qbe (cl:Cl)(hp:Hp)(d f:Nat)(args:List AV):Option (List AV)->Option (AV×Hp)
 | some as=>retK args hp d (cl f as [])
 | none=>none
theorem z5l {cl:Cl}{d f:Nat}{args:List AV}:zcr cl hp d f args .lend=qbe cl hp d f args (mapO (zau hp 4) args):=by
 simp only[zcr]
 rcases mapO (zau hp 4) args with _|as
 . rfl
 . simp only[wE,qbe]
   rcases cl f as []with _|⟨r,_|⟨_,_⟩,_|⟨_,_⟩⟩<;>rfl
theorem zxc {cl:Cl}{d f:Nat}{args as:List AV}:qbe cl hp d f args (some as)=retK args hp d (cl f as []):=rfl
theorem z3f {d:Nat}{args:List AV}{r:AV}:retK args hp d (some (r,[],[]))=if AV.plains args||zcw r then some (r,[])else none:=rfl
theorem z3g {d:Nat}{args:List AV}{r:AV}{e:OB}{es:List OB}:retK args hp d (some (r,[],e::es))=if AV.plains args||(zcw r&&(e::es).all zez)then(zb7 hp d 0 (e::es)).map fun us=>(rn d r,us)else none:=rfl
end
attribute [go_sem] zvi zrq zvf zvh zx8 zvg zvj zyw zez
attribute [go_sem] z5d zss zsv zlt zsu z5g z1b z5f zab Opd.val Fr.get St.upd Fr.upd Hp.get zan za3 AV.scalars AV.isAgg AV.kids Sh.sub Sh.agg AV.nav Sh.sizes Sh.size zgc z15 ziy AV.mk AV.plains AV.plain AV.setNav
attribute [go_sem] zvv zxk zzj zvz zzg z9u zzk zzi z4e z4c zzh ptrO ptrK zv0 aggK z4d zzc z32 zw8 AV.known zzu zhr z5b z07 zi7 zht zi1 zx5 z21 zx6 zs7 zxg zs8 z04 z48 z3i z3j z3h zr4 zpx zvq zw9 z02 zr3 zpw z3x zr7 zvu zr8 z3t frOf vals
attribute [go_sem] zdu zj2 zgb bnds zaz sub Sh.beq Sh.beqs
attribute [go_sem] Option.map_some Option.map_none wE List.map List.cons_append List.nil_append List.headD List.tail List.take ite_true ite_false if_true if_false List.getElem?_cons_zero List.getElem?_cons_succ List.set_cons_zero List.set_cons_succ List.length_cons List.length_nil and_self and_true true_and Option.isNone_none Option.isNone_some Bool.and_true wC Bool.and_self decide_true List.replicate List.drop List.isEmpty_nil List.isEmpty_cons
attribute [go_sem] wO wP Int.natCast_nonneg qct qcu qfq qgg qb2 qfs qcf qdm z7g qdh z8g z8k qbr qc8 z7e qbv z7y z9f z2k z9a z8f z8j qbq qc7 z7d qbu z7x z9e z2j z89 z8e z8i qbp qc6 z7c qbt z7w z9d zte z88 zdq wG BitVec.ofNat_toNat BitVec.setWidth_eq
attribute [go_sem] z5l zxc z3f z3g zcw zc0 zez zb7 rn rns zdc mvKs keyL zq5 qcs rnMv rn1 rnFr rnHp sw Kp.keys Kp.owns Kp.ownSrc Kp.slotRefs zv2 zsi AV.refs AV.refss List.append_nil List.contains_nil List.contains_cons List.all_nil w1 Bool.not_false wD Bool.or_true Bool.true_or Bool.or_false Bool.false_or
attribute [go_sem] zs4 zs5 zsf zsg ge_iff_le gt_iff_lt Nat.lt_irrefl Nat.le_refl Nat.zero_le Int.cast_ofNat_Int Int.natCast_zero Int.natCast_one decide_false decide_true qbl zal zgw sw8 sw16 sw32 sw64 zfq
attribute [go_sem] z1a zxa zsz zw7 zz1 z4j z5e
attribute [go_sem] Nat.zero_add Nat.add_zero Int.toNat_natCast
attribute [go_sem] z08 zzz z9y z91 z9z z90 zz0 zr6 zvs zzy zoy z0f z0i z0g z0h beq_self_eq_true
attribute [go_sem] zjv w2
attribute [go_sem] List.length_append eq_self
attribute [go_sem] qfd qfc qff qfn qfi qfj qfk qfl qfm z52 z50 z51
theorem zw3 {cl:Cl}{hp:Hp}{d f:Nat}{args:List AV}:zcr cl hp d f args .imp=if f<RB then zbu cl hp d f args (zat hp (AV.refss args))else none:=by rw[zcr]
theorem zsm {hp hp':Hp}{d:Nat}{ks:List Nat}{r:AV}{es:List OB}:zue hp d ks (some (r,hp',es))=if zbg hp' 0 ks.length then(layG hp ks d 0 es).map fun us=>(rA (dn ks d) r,zdd ks d hp'++us)else none:=rfl
def zi8 (hp:Hp)(all:List Nat):List Nat->Bool
 | []=>true
 | k::l=>((hp.get k).isSome&&(zlc (hp.get k)).all all.contains)&&zi8 hp all l
def zlf (hp:Hp)(all:List Nat):List Nat->List OB
 | []=>[]
 | k::l=>rOB (nm all) (getO hp k)::zlf hp all l
def inL :List Nat->Bool
 | []=>true
 | k::l=>decide (SHK<=k)&&inL l
def outL :List Nat->Bool
 | []=>true
 | k::l=>decide (k<SHK)&&outL l
theorem zlx (hp:Hp)(all:List Nat):∀l:List Nat,zi8 hp all l=l.all fun k=>(hp.get k).isSome&&(zlc (hp.get k)).all all.contains
 | []=>rfl
 | k::l=>by rw[zi8,zlx hp all l,w1]
theorem zle (hp:Hp)(all:List Nat):∀l:List Nat,zlf hp all l=l.map fun k=>rOB (nm all) (getO hp k)
 | []=>rfl
 | k::l=>by rw[zlf,zle hp all l,List.map_cons]
theorem z0b :∀l:List Nat,inL l=l.all fun k=>decide (SHK<=k)
 | []=>rfl
 | k::l=>by rw[inL,z0b l,w1]
theorem ztv :∀l:List Nat,outL l=l.all fun k=>decide (k<SHK)
 | []=>rfl
 | k::l=>by rw[outL,ztv l,w1]
theorem zq2 (hp:Hp)(ks:List Nat):zc9 hp ks=zi8 hp ks ks:=(zlx hp ks ks).symm
theorem z84 (st:St)(hk:List Nat)(rs:List AV)(E:List Nat):ze8 st hk rs E =
  if zi8 st.hp (hk++E) (hk++E)&&(AV.refss rs).all (hk++E).contains&&zgb (hk++E)&&inL hk&&outL E&&decide (E.length<1000)&&AV.knowns rs then
   some (rAs (nm E) rs,zd5 st.hp E hk,zlf st.hp E E)
  else none:=by
 rw[ze8,zq2,z0b,ztv,zle]
attribute [go_sem] zi8 zlf inL outL
attribute [go_sem] RB zw3 zsm zbu zat zee zq2 zlc zeg getO idx up dn rA rAs rOB upHp zdd zbg layG SHK zuy ksA bigs z05 z49 z01 zzd z84 zco z8y zch zd5 nm zn9 AV.knowns Option.getD_some List.getD_cons_zero List.getD_cons_succ Option.isSome_some Option.isSome_none
end Go.Ev
