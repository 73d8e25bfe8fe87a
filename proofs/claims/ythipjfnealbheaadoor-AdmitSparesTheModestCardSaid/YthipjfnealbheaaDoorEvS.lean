/-
  For the evaluator's user: evaluation by simp, no lambda on the way. No condition.
-/
import Derived.Test.YthipjfnealbheaaDoorEvD
import Derived.Attr
set_option linter.all false
open Bool renaming false_eq_true->wB,true_and->wC,not_true->wD
open Option renaming bind_some->wE
open BitVec renaming eq_of_toNat_eq->wF,ofInt_natCast->wG,toNat_ofNat->wH,toNat_ofInt->wJ,ofInt_mul->wK,ofInt_add->wL,toInt->wM
open Int renaming fdiv_eq_ediv_of_nonneg->wN,ofNat_lt->wO,ofNat_le->wP,ediv_eq_zero_of_lt->wQ,pow_pos->wR,natCast_emod->wS,le_of_lt->wT
open Nat renaming min_eq_right->wU,min_eq_left->wV,pow_le_pow_right->wW,add_one_sub_one->wX,mod_eq_of_lt->wY,div_eq_of_lt->wZ,le_total->w0
open List renaming all_cons->w1,take_length->w2
namespace Go.Ev
open Go
class Lq (p:Prop):Prop where
 t:True
instance {α :Type} {a b:α}:Lq (a=b):=⟨trivial⟩
instance {α :Type} [LE α] {a b:α}:Lq (a<=b):=⟨trivial⟩
instance {α :Type} [LT α] {a b:α}:Lq (a<b):=⟨trivial⟩
instance {a b:Prop}:Lq (a/\b):=⟨trivial⟩
instance {a b:Prop}:Lq (a\/b):=⟨trivial⟩
instance {a b:Prop}:Lq (a↔b):=⟨trivial⟩
theorem zq {p:Prop}[Lq p](h:p):p:=h
abbrev Its.o (d:Nat)(m:MOp)(r:Its):Its:=.op (some d) m r
abbrev Its.u (m:MOp)(r:Its):Its:=.op none m r
abbrev FO.o (d:Nat)(m:MOp):FO:=⟨some d,m,none⟩
abbrev FO.u (m:MOp):FO:=⟨none,m,none⟩
abbrev FO.w (d g:Nat)(b:Bool)(m:MOp):FO:=⟨some d,m,some (g,b)⟩
abbrev MOp.m (i:Nat):MOp:=.mov (.t i)
abbrev MOp.l (i:Nat):MOp:=.load false 1 (.t i)
abbrev MOp.L (n i:Nat):MOp:=.load true n (.t i)
abbrev MOp.a (i off x:Nat):MOp:=.faddr i off (.t x)
abbrev MOp.b (op:BinOp)(x y:Nat):MOp:=.bin op (.t x) (.t y)
abbrev MOp.S (n p x:Nat):MOp:=.store n (.t p) (.t x)
abbrev MOp.x (t i:Nat):MOp:=.extr (.t t) i
abbrev MOp.n (t:Nat):MOp:=.len false (.t t)
abbrev MOp.I (esz x i:Nat):MOp:=.iaddrS esz (.t x) (.t i)
abbrev MOp.q (a b:Nat):MOp:=.pick (.t a) (.t b) (.c (.bool false))
abbrev Opd.i (n:Int):Opd:=.c (.int .i64 n)
def seqK (gl:Gl)(cl:Cl)(b:MC):Option (Ex×St)->Option (Ex×St)
 | some (.norm,st)=>evC gl cl b st
 | r=>r
def zro (id:Nat):Option (Ex×St)->Option (Ex×St)
 | some (e,st)=>some (if e= .exit id then .norm else e,st)
 | none=>none
def qh7 (ks:List Kp):Option (Ex×St)->Option (Ex×St)
 | some (.norm,st)=>(zdf ks st).map fun st=>(.norm,st)
 | r=>r
def z95 :Option St->Option (Ex×St)
 | some st=>some (.norm,st)
 | none=>none
def itsK (gl:Gl)(cl:Cl)(d:Option Nat)(rest:Its)(st:St):Option (AV×Hp)->Option St
 | some (v,us)=>zbm gl cl rest (st.upd d v us)
 | none=>none
def iteK (gl:Gl)(cl:Cl)(lo hi d:Nat)(rest:Its)(st:St):Option AV->Option St
 | some x=>zbm gl cl rest {fr:=.set d x::.clr lo hi::st.fr,hp:=st.hp}
 | none=>none
def fnK (fd:Fd):Option (Ex×St)->Option (AV×Hp×List OB)
 | some (.norm,st)|some (.ret,st)=>(zgp st fd.res fd.pk).map fun z=>(match z.1 with|[a]=>a|l=>.tup l,[],z.2)
 | _=>none
section
variable {gl :Gl} {cl:Cl} {st:St}
theorem z53 :evC gl cl .skip st=some (.norm,st):=rfl
theorem zs5 :evC gl cl .ret st=some (.ret,st):=rfl
theorem z56 {i:Nat}:evC gl cl (.exit i) st=some (.exit i,st):=rfl
theorem zfp {b:MC}:evC gl cl (.scope b) st=evC gl cl b st:=rfl
theorem zs4 {a b:MC}:evC gl cl (.seq a b) st=seqK gl cl b (evC gl cl a st):=by
 rw[evC];rcases evC gl cl a st with _|⟨_|_|_,_⟩<;>rfl
theorem zys {b:MC}:seqK gl cl b (some (.norm,st))=evC gl cl b st:=by rw[seqK]
theorem z3s {b:MC}:seqK gl cl b (some (.ret,st))=some (.ret,st):=rfl
theorem zyt {b:MC}{i:Nat}:seqK gl cl b (some (.exit i,st))=some (.exit i,st):=rfl
theorem z1y {i:Nat}{b:MC}:evC gl cl (.block i b) st=zro i (evC gl cl b st):=by
 rw[evC];rcases evC gl cl b st with _|⟨_,_⟩<;>rfl
theorem zti {i:Nat}:zro i (some (.norm,st))=some (.norm,st):=rfl
theorem zxz {i:Nat}:zro i (some (.ret,st))=some (.ret,st):=rfl
theorem ztj {i j:Nat}:zro i (some (.exit j,st))=some (if j=i then .norm else .exit j,st):=by simp[zro]
theorem z55 {ks:List Kp}{b:MC}:evC gl cl (.kept ks b) st=qh7 ks (evC gl cl b st):=by
 rw[evC];rcases evC gl cl b st with _|⟨_|_|_,_⟩<;>rfl
theorem zs6 {i:Its}:evC gl cl (.reg i) st=z95 (zbm gl cl i st):=by rw[evC];cases zbm gl cl i st<;>rfl
theorem zi6 :z95 (some st)=some (.norm,st):=rfl
theorem z1u :zbm gl cl .nil st=some st:=rfl
theorem z51 {d:Option Nat}{m:MOp}{r:Its}:zbm gl cl (.op d m r) st=itsK gl cl d r st (zab gl cl st d m):=by
 rw[zbm];rcases zab gl cl st d m with _|⟨_,_⟩<;>rfl
theorem z0g {d:Option Nat}{r:Its}{v:AV}{us:Hp}:itsK gl cl d r st (some (v,us))=zbm gl cl r (st.upd d v us):=by rw[itsK]
end
def zbx (gl:Gl)(cl:Cl):List FO->St->Option St
 | [],st=>some st
 | o::l,st =>
   match o.g with
   | none=>(zab gl cl st o.d o.m).bind fun r=>zbx gl cl l (st.upd o.d r.1 r.2)
   | some (c,want) =>
     match st.fr.get c with
     | .bool t=>if t=want then(zab gl cl st o.d o.m).bind fun r=>zbx gl cl l (st.upd o.d r.1 r.2)else zbx gl cl l (st.upd o.d (.tup []) [])
     | .tup []=>zbx gl cl l (st.upd o.d (.tup []) [])
     | _=>none
def znd (gl:Gl)(cl:Cl)(d:Option Nat)(l:List FO)(st:St):Option (AV×Hp)->Option St
 | some (v,us)=>zbx gl cl l (st.upd d v us)
 | none=>none
section
variable {gl :Gl} {cl:Cl} {st:St}
theorem zng :∀{l:List FO} {st:St},(zbp gl cl l st).map (·.1)=zbx gl cl l st
 | [],st=>rfl
 | o::l,st=>by
   have ih:=fun st=>zng (l:=l) (st:=st)
   obtain⟨d,m,g⟩:=o
   cases g with
   | none=>simp only[zbp,zbx];cases zab gl cl st d m<;>simp[<-ih,Function.comp_def]
   | some p =>
     obtain⟨c,want⟩:=p
     simp only[zbp,zbx]
     cases st.fr.get c with
     | bool t=>by_cases h:t=want<;>simp only[h,if_true,if_false]<;>first|(cases zab gl cl st d m<;>simp[<-ih,Function.comp_def];done)|simp[<-ih,Function.comp_def]
     | tup l=>cases l<;>simp[<-ih,Function.comp_def]
     | _=>rfl
theorem zl2 {l:List FO}:evC gl cl (.draw l []) st=z95 (zbx gl cl l st):=by
 rw[evC,<-zng];rcases zbp gl cl l st with _|⟨_,_⟩<;>rfl
theorem zhw :zbx gl cl [] st=some st:=rfl
theorem zjd {d:Option Nat}{m:MOp}{l:List FO}:zbx gl cl (⟨d,m,none⟩::l) st=znd gl cl d l st (zab gl cl st d m):=by
 rw[zbx];rcases zab gl cl st d m with _|⟨_,_⟩<;>rfl
theorem zhu {d:Option Nat}{l:List FO}{v:AV}{us:Hp}:znd gl cl d l st (some (v,us))=zbx gl cl l (st.upd d v us):=by rw[znd]
end
theorem qbr {gl:Gl}{cl:Cl}{fd:Fd}{args:List AV}(hg:zlv fd.pk=false):evFn gl cl fd args []=fnK fd (evC gl cl fd.body {fr:=frOf 0 args,hp:=[]}):=by
 rw[evFn,hg];simp only[wB,if_false];rcases evC gl cl fd.body _ with _|⟨_|_|_,_⟩<;>rfl
theorem qca {gl:Gl}{tab:Nat->Option Fd}{n f:Nat}{args:List AV}{fd:Fd}(h:tab f=some fd)(hg:zlv fd.pk=false)(hv:fd.giv=none:=by rfl):call gl tab (n+1) f args []=fnK fd (evC gl (call gl tab n) fd.body {fr:=frOf 0 args,hp:=[]}):=by
 rw[call,h];simp only[wE,hv];exact qbr hg
theorem zgb {gl:Gl}{tab:Nat->Option Fd}{n f:Nat}{args:List AV}{imps:Hp}{fd:Fd}{g}(h:tab f=some fd)(hv:fd.giv=some g:=by rfl):call gl tab (n+1) f args imps=g gl (call gl tab n) args imps:=by
 rw[call,h];simp only[wE,hv]
theorem zlt {f:St->Option (Ex×St)}{ks:List Kp}{n:Nat}{st st1 st2:St}(h:zdf ks st=some st1)(hf:f st1=some (.norm,st2)):iter f ks (n+1) st=iter f ks n st2:=by
 rw[iter,h];simp[hf]
theorem zkm {f:St->Option (Ex×St)}{ks:List Kp}{n:Nat}{st st1 st2:St}{e:Ex}(h:zdf ks st=some st1)(hf:f st1=some (e,st2))(he:e≠.norm):iter f ks (n+1) st=some (e,st2):=by
 rw[iter,h];cases e<;>simp_all
theorem z47 {f:St->Option (Ex×St)}{ks:List Kp}(S:Nat->St)(N:Nat){st out:St}{e:Ex}(hN:N<LF)
  (h0:zdf ks st=some (S 0)) (hs:∀i,i<N->∃st2,f (S i)=some (.norm,st2)/\zdf ks st2=some (S (i+1))) (he:f (S N)=some (e,out)) (hne:e≠.norm) :
  iter f ks LF st=some (e,out):=by
 have key:∀(d i n:Nat) (st:St),i+d=N->d<n->zdf ks st=some (S i)->iter f ks n st=some (e,out):=by
  intro d
  induction d with
  | zero =>
    intro i n st hi hn hc
    obtain⟨n,rfl⟩:∃m,n=m+1:=⟨n-1,by omega⟩
    have:i=N:=by omega
    subst this
    exact zkm hc he hne
  | succ d ih =>
    intro i n st hi hn hc
    obtain⟨n,rfl⟩:∃m,n=m+1:=⟨n-1,by omega⟩
    obtain⟨st2,h1,h2⟩:=hs i (by omega)
    rw[zlt hc h1]
    exact ih (i+1) n st2 (by omega) (by omega) h2
 exact key N 0 LF st (by omega) hN h0
end Go.Ev
namespace Go.Ev
open Go
def finK (res:List ResD)(pk:List Pk):Option (Ex×St)->Option (AV×Hp×List OB)
 | some (.norm,st)|some (.ret,st)=>(zgp st res pk).map fun z=>(match z.1 with|[a]=>a|l=>.tup l,[],z.2)
 | _=>none
theorem zah {gl:Gl}{tab:Nat->Option Fd}{n f:Nat}{args:List AV}{fd:Fd}(h:tab f=some fd)(hg:zlv fd.pk=false:=by rfl)(hv:fd.giv=none:=by rfl):call gl tab (n+1) f args []=finK fd.res fd.pk (evC gl (call gl tab n) fd.body {fr:=frOf 0 args,hp:=[]}):=by
 rw[qca h hg hv];rcases evC gl (call gl tab n) fd.body _ with _|⟨_|_|_,_⟩<;>rfl
def resK :Option (List AV×List OB)->Option (AV×Hp×List OB)
 | some ([a],es)=>some (a,[],es)
 | some (l,es)=>some (.tup l,[],es)
 | none=>none
theorem z1r {res:List ResD}{pk:List Pk}{st:St}:finK res pk (some (.norm,st))=resK (zgp st res pk):=by
 simp only[finK];rcases zgp st res pk with _|⟨_|⟨a,_|⟨b,l⟩⟩,es⟩<;>rfl
theorem z5y {res:List ResD}{pk:List Pk}{st:St}:finK res pk (some (.ret,st))=resK (zgp st res pk):=by
 simp only[finK];rcases zgp st res pk with _|⟨_|⟨a,_|⟨b,l⟩⟩,es⟩<;>rfl
theorem z37 {a:AV}{es:List OB}:resK (some ([a],es))=some (a,[],es):=rfl
theorem z38 {es:List OB}:resK (some ([],es))=some (.tup [],[],es):=rfl
theorem z36 {a b:AV}{l:List AV}{es:List OB}:resK (some (a::b::l,es))=some (.tup (a::b::l),[],es):=rfl
def qb4 (a:AV):Option (List AV)->Option (List AV)
 | some l=>some (a::l)
 | none=>none
def z9t (st:St)(rs:List ResD):Option AV->Option (List AV)
 | some a=>qb4 a (zba st rs)
 | none=>none
theorem zsh {st:St}:zba st []=some []:=rfl
theorem zp9 {st:St}{r:ResD}{rs:List ResD}:zba st (r::rs)=z9t st rs (ze2 st r):=by
 rw[zba];rcases ze2 st r with _|a
 . rfl
 . simp only[wE,z9t];rcases zba st rs with _|l<;>rfl
theorem zv7 {st:St}{rs:List ResD}{a:AV}:z9t st rs (some a)=qb4 a (zba st rs):=rfl
theorem zxs {a:AV}{l:List AV}:qb4 a (some l)=some (a::l):=rfl
def fstK :Option (AV×Hp)->Option AV
 | some q=>some q.1
 | none=>none
theorem z1p {a:AV}{us:Hp}:fstK (some (a,us))=some a:=rfl
theorem zsg {st:St}{t:Nat}:ze2 st (.tmp t)=some (st.fr.get t):=rfl
theorem zp8 {st:St}{t n:Nat}{ag:Bool}:ze2 st (.cell t ag n)=fstK (zab Gl.none (fun _ _ _=>none) st none (.load ag n (.t t))):=by
 rw[ze2];rcases zab _ _ st none _ with _|⟨a,b⟩<;>rfl
def z68 (st:St)(pks:List Pk):Option (List AV)->Option (List AV×List OB)
 | some rs=>if zge (zdw rs pks)then zd1 st.hp (zj8 (zdw rs pks)++st.hp) 0 rs pks else none
 | none=>none
theorem z4m {st:St}{res:List ResD}{pks:List Pk}:zgp st res pks=z68 st pks (zba st res):=by
 rw[zgp];rcases zba st res with _|rs<;>rfl
theorem zsk {st:St}{pks:List Pk}{rs:List AV}:z68 st pks (some rs)=if zge (zdw rs pks)then zd1 st.hp (zj8 (zdw rs pks)++st.hp) 0 rs pks else none:=rfl
def prK (hp hp':Hp)(j:Nat)(rs:List AV)(pks:List Pk):Option (AV×List OB)->Option (List AV×List OB)
 | some (a,es)=>(zd1 hp hp' (j+es.length) rs pks).map fun z=>(a::z.1,es++z.2)
 | none=>none
theorem zwb {hp hp':Hp}{j:Nat}{pks:List Pk}:zd1 hp hp' j [] pks=some ([],[]):=by cases pks<;>rfl
theorem zsl {hp hp':Hp}{j:Nat}{r:AV}{rs:List AV}{pks:List Pk}:zd1 hp hp' j (r::rs) pks=prK hp hp' j rs pks.tail (zic hp hp' j r (pks.headD .asis)):=by
 rw[zd1];rcases zic hp hp' j r (pks.headD .asis)with _|⟨a,es⟩<;>rfl
theorem z4i {hp hp':Hp}{j:Nat}{rs:List AV}{pks:List Pk}{a:AV}{es:List OB}:prK hp hp' j rs pks (some (a,es))=(zd1 hp hp' (j+es.length) rs pks).map fun z=>(a::z.1,es++z.2):=rfl
def qgr :Option AV->Option (AV×List OB)
 | some a=>if a.known then some (a,[])else none
 | none=>none
theorem zwc {hp hp':Hp}{j:Nat}{r:AV}:zic hp hp' j r .asis=qgr (zau hp' 4 r):=by
 rw[zic];rcases zau hp' 4 r with _|a<;>rfl
theorem zx3 {a:AV}:qgr (some a)=if a.known then some (a,[])else none:=rfl
end Go.Ev
namespace Go.Ev
open Go
theorem z54 {gl:Gl}{cl:Cl}{ks:List Kp}{b:MC}{st:St}:evC gl cl (.loop ks b) st=iter (evC gl cl b) ks LF st:=rfl
end Go.Ev
namespace Go.Ev
open Go
def zbn (ks:List Kp):Option (Ex×St)->Option St
 | some (.norm,st)=>zdf ks st
 | _=>none
theorem zxq {ks:List Kp}{st:St}:zbn ks (some (.norm,st))=zdf ks st:=rfl
def isEx :Option (Ex×St)->Bool
 | some (.exit _,_)=>true
 | some (.ret,_)=>true
 | _=>false
theorem z0n {i:Nat}{st:St}:isEx (some (.exit i,st))=true:=rfl
theorem z48 {st:St}:isEx (some (.ret,st))=true:=rfl
theorem zam {f:St->Option (Ex×St)}{ks:List Kp}(S:Nat->St)(N:Nat){st:St}(hN:N<LF)(h0:zdf ks st=some (S 0))(hs:∀i,i<N->zbn ks (f (S i))=some (S (i+1)))(he:isEx (f (S N))=true) :
  iter f ks LF st=f (S N):=by
 cases h:f (S N)with
 | none=>rw[h]at he;cases he
 | some r =>
   obtain⟨e,out⟩:=r
   refine z47 S N hN h0 (fun i hi=> ?_) h (by rw[h]at he;cases e<;>simp_all[isEx])
   have:=hs i hi
   unfold zbn at this
   split at this
   . rename_i st2 h2;exact⟨st2,h2,this⟩
   . cases this
end Go.Ev
namespace Go.Ev
open Go
def qb5 (gl:Gl)(cl:Cl)(a b:MC)(st:St):AV->Option (Ex×St)
 | .bool true=>evC gl cl a st
 | .bool false=>evC gl cl b st
 | _=>none
theorem z1x {gl:Gl}{cl:Cl}{c:Opd}{a b:MC}{st:St}:evC gl cl (.cond c a b) st=qb5 gl cl a b st (c.val gl st.fr):=by
 rw[evC];cases c.val gl st.fr<;>first|rfl|(rename_i t;cases t<;>rfl)
theorem zxt {gl:Gl}{cl:Cl}{a b:MC}{st:St}:qb5 gl cl a b st (.bool true)=evC gl cl a st:=rfl
theorem zta {gl:Gl}{cl:Cl}{a b:MC}{st:St}:qb5 gl cl a b st (.bool false)=evC gl cl b st:=rfl
def zqj (x:AV):Option AV:=if x.plain then some x else none
def iteC (gl:Gl)(a:Opd):Option St->Option AV
 | some st1=>zqj (a.val gl st1.fr)
 | none=>none
def iteS (gl:Gl)(cl:Cl)(w t:Bool)(blk:Its)(a b:Opd)(st:St):Option AV :=
 if t=w then iteC gl (if w then a else b) (zbm gl cl blk st)else some ((if w then b else a).val gl st.fr)
def iteD (gl:Gl)(cl:Cl)(w:Bool)(blk:Its)(lo hi d:Nat)(a b:Opd)(rest:Its)(st:St):AV->Option St
 | .bool t=>iteK gl cl lo hi d rest st (iteS gl cl w t blk a b st)
 | _=>none
def zgu (gl:Gl)(cl:Cl)(d:Option Nat)(m:MOp)(w:Bool)(l:List FO)(st:St):AV->Option St
 | .bool t=>if t=w then znd gl cl d l st (zab gl cl st d m)else zbx gl cl l (st.upd d (.tup []) [])
 | .tup []=>zbx gl cl l (st.upd d (.tup []) [])
 | _=>none
section
variable {gl :Gl} {cl:Cl} {st:St}
theorem z1v {c:Nat}{w:Bool}{blk:Its}{lo hi d:Nat}{a b:Opd}{rest:Its} :
  zbm gl cl (.ite c w blk lo hi d a b rest) st=iteD gl cl w blk lo hi d a b rest st (st.fr.get c):=by
 rw[zbm]
 cases st.fr.get c with
 | bool t =>
   simp only[iteD,iteS]
   split
   . cases w<;>(simp only[if_true,if_false,wB];cases zbm gl cl blk st with
      | none=>rfl
      | some st1=>simp only[wE,iteC,zqj];split<;>rfl)
   . rfl
 | _=>rfl
theorem z0l {t w:Bool}{blk:Its}{lo hi d:Nat}{a b:Opd}{rest:Its}:iteD gl cl w blk lo hi d a b rest st (.bool t)=iteK gl cl lo hi d rest st (iteS gl cl w t blk a b st):=rfl
theorem qaq {blk:Its}{a b:Opd}:iteS gl cl true true blk a b st=iteC gl a (zbm gl cl blk st):=rfl
theorem qat {blk:Its}{a b:Opd}:iteS gl cl false false blk a b st=iteC gl b (zbm gl cl blk st):=rfl
theorem qar {blk:Its}{a b:Opd}:iteS gl cl true false blk a b st=some (b.val gl st.fr):=rfl
theorem qas {blk:Its}{a b:Opd}:iteS gl cl false true blk a b st=some (a.val gl st.fr):=rfl
theorem z0m {a:Opd}{st1:St}:iteC gl a (some st1)=zqj (a.val gl st1.fr):=rfl
theorem zsj {b:Bool}:zqj (.bool b)=some (.bool b):=rfl
theorem zv9 {k:IntKind}{n:Int}:zqj (.int k n)=some (.int k n):=rfl
theorem z0k {lo hi d:Nat}{rest:Its}{x:AV}:iteK gl cl lo hi d rest st (some x)=zbm gl cl rest {fr:=.set d x::.clr lo hi::st.fr,hp:=st.hp}:=rfl
theorem zo8 {d:Option Nat}{m:MOp}{c:Nat}{w:Bool}{l:List FO}:zbx gl cl (⟨d,m,some (c,w)⟩::l) st=zgu gl cl d m w l st (st.fr.get c):=by
 rw[zbx]
 simp only
 generalize st.fr.get c=v
 cases v with
 | bool t =>
   simp only[zgu]
   by_cases h:t=w
   . simp only[h,if_true];rcases zab gl cl st d m with _|⟨_,_⟩<;>rfl
   . simp only[h,if_false]
 | tup l=>cases l<;>rfl
 | _=>rfl
theorem z01 {d:Option Nat}{m:MOp}{l:List FO}:zgu gl cl d m true l st (.bool true)=znd gl cl d l st (zab gl cl st d m):=by rw[zgu,if_pos rfl]
theorem z04 {d:Option Nat}{m:MOp}{l:List FO}:zgu gl cl d m false l st (.bool false)=znd gl cl d l st (zab gl cl st d m):=by rw[zgu,if_pos rfl]
theorem z02 {d:Option Nat}{m:MOp}{l:List FO}:zgu gl cl d m true l st (.bool false)=zbx gl cl l (st.upd d (.tup []) []):=by rw[zgu,if_neg (by decide)]
theorem z03 {d:Option Nat}{m:MOp}{l:List FO}:zgu gl cl d m false l st (.bool true)=zbx gl cl l (st.upd d (.tup []) []):=by rw[zgu,if_neg (by decide)]
end
end Go.Ev
namespace Go.Ev
open Go
def mapG :Option (List AV×Hp×List OB)->Option (AV×Hp×List OB)
 | some (l,hp,es)=>some (zol l,hp,es)
 | none=>none
def genK (st:St)(hk:List Nat):Option (List AV)->Option (AV×Hp×List OB)
 | some rs=>mapG (zfd st hk rs (zco st hk rs))
 | none=>none
def finG (res:List ResD)(hk:List Nat):Option (Ex×St)->Option (AV×Hp×List OB)
 | some (.norm,st)|some (.ret,st)=>genK st hk (zba st res)
 | _=>none
theorem zbe {gl:Gl}{tab:Nat->Option Fd}{n f:Nat}{args:List AV}{imps:Hp}{fd:Fd}(h:tab f=some fd)(hg:zlv fd.pk=true:=by rfl)(hm:mcLt fd.body=true:=by rfl)(hv:fd.giv=none:=by rfl) :
  call gl tab (n+1) f args imps=finG fd.res (zch imps) (evC gl (call gl tab n) fd.body {fr:=frOf 0 args,hp:=imps}):=by
 have key:∀st:St,((zba st fd.res).bind fun rs=>(zfd st (zch imps) rs (zco st (zch imps) rs)).map fun z=>(zol z.1,z.2.1,z.2.2))=genK st (zch imps) (zba st fd.res):=fun st=>by
  rcases zba st fd.res with _|rs
  . rfl
  . simp only[wE,genK]
    rcases zfd st (zch imps) rs (zco st (zch imps) rs)with _|⟨_,_,_⟩<;>rfl
 rw[call,h]
 simp only[wE,hv,evFn,hg,hm,if_true,wD,wB,if_false]
 rcases evC gl (call gl tab n) fd.body _ with _|⟨_|_|_,st⟩
 . rfl
 . exact key st
 . rfl
 . exact key st
theorem z1s {res:List ResD}{hk:List Nat}{st:St}:finG res hk (some (.norm,st))=genK st hk (zba st res):=rfl
theorem z5z {res:List ResD}{hk:List Nat}{st:St}:finG res hk (some (.ret,st))=genK st hk (zba st res):=rfl
theorem z1o {st:St}{hk:List Nat}{rs:List AV}:genK st hk (some rs)=mapG (zfd st hk rs (zco st hk rs)):=rfl
theorem zzz {l:List AV}{hp:Hp}{es:List OB}:mapG (some (l,hp,es))=some (zol l,hp,es):=rfl
end Go.Ev
namespace Go.Ev
open Go
theorem znk (w:Nat)(a:Int):a%(2^w:Int)=((BitVec.ofInt w a).toNat:Int):=by
 rw[wJ]
 have h:(0:Int)<2^w:=wR (by omega)
 have h1:=Int.emod_nonneg a (Int.ne_of_gt h)
 have e:((2^w:Nat):Int)=(2:Int)^w:=by simp
 rw[e]
 exact(Int.toNat_of_nonneg h1).symm
theorem zds {w:Nat}(x:BitVec w):BitVec.ofInt w (x.toNat:Int)=x:=by simp
theorem zms (w:Nat)(a b:Int):BitVec.ofInt w (a-b)=BitVec.ofInt w a-BitVec.ofInt w b:=by
 rw[Int.sub_eq_add_neg,wL,BitVec.ofInt_neg,BitVec.sub_eq_add_neg]
theorem zj5 {k:IntKind}(hs:k.signed=false)(a:Int):k.wrap a=((BitVec.ofInt k.bits a).toNat:Int):=by
 rw[<-znk];simp[IntKind.wrap,hs]
section
variable {k :IntKind} (hs:k.signed=false)
include hs
theorem andU (a b:Int):zan .and k a b=some (.int k ((BitVec.ofInt k.bits a&&&BitVec.ofInt k.bits b).toNat:Int)):=by
 simp only[zan,zj5 hs,zds]
theorem orU (a b:Int):zan .or k a b=some (.int k ((BitVec.ofInt k.bits a|||BitVec.ofInt k.bits b).toNat:Int)):=by
 simp only[zan,zj5 hs,zds]
theorem xorU (a b:Int):zan .xor k a b=some (.int k ((BitVec.ofInt k.bits a^^^BitVec.ofInt k.bits b).toNat:Int)):=by
 simp only[zan,zj5 hs,zds]
theorem addU (a b:Int):zan .add k a b=some (.int k ((BitVec.ofInt k.bits a+BitVec.ofInt k.bits b).toNat:Int)):=by
 simp only[zan,zj5 hs,wL]
theorem subU (a b:Int):zan .sub k a b=some (.int k ((BitVec.ofInt k.bits a-BitVec.ofInt k.bits b).toNat:Int)):=by
 simp only[zan,zj5 hs,zms]
theorem mulU (a b:Int):zan .mul k a b=some (.int k ((BitVec.ofInt k.bits a*BitVec.ofInt k.bits b).toNat:Int)):=by
 simp only[zan,zj5 hs,wK]
theorem shlU (a b:Int)(h:0<=b):zbw .shl k a b=some (.int k ((BitVec.ofInt k.bits a<<<b.toNat).toNat:Int)):=by
 have h':¬b<0:=by omega
 simp only[zbw,h',if_false,zj5 hs]
 have e:BitVec.ofInt k.bits (a*2^min b.toNat k.bits)=BitVec.ofInt k.bits a<<<b.toNat:=by
  rw[wK]
  rcases Nat.lt_or_ge b.toNat k.bits with hb|hb
  . rw[wV (Nat.le_of_lt hb)]
    have:BitVec.ofInt k.bits (2^b.toNat)=BitVec.twoPow k.bits b.toNat:=by
     rw[show(2:Int)^b.toNat=((2^b.toNat:Nat):Int) by simp,wG,BitVec.twoPow_eq]
     apply wF
     simp[Nat.shiftLeft_eq]
    rw[this,BitVec.mul_twoPow_eq_shiftLeft]
  . rw[wU hb,BitVec.shiftLeft_eq_zero hb]
    have:BitVec.ofInt k.bits (2^k.bits)=0#k.bits:=by
     rw[show(2:Int)^k.bits=((2^k.bits:Nat):Int) by simp,wG]
     apply wF
     simp
    rw[this,BitVec.mul_zero]
 rw[e]
omit hs in
theorem shrU {k:IntKind}(x:BitVec k.bits)(b:Int)(h:0<=b):zbw .shr k (x.toNat:Int) b=some (.int k ((x>>>b.toNat).toNat:Int)):=by
 have h':¬b<0:=by omega
 simp only[zbw,h',if_false]
 have e:((x.toNat:Int)).fdiv (2^min b.toNat k.bits)=((x>>>b.toNat).toNat:Int):=by
  rw[BitVec.toNat_ushiftRight,Nat.shiftRight_eq_div_pow,wN _ (wT (wR (by omega)))]
  rw[show(2:Int)^min b.toNat k.bits=((2^min b.toNat k.bits:Nat):Int) by simp,<-Int.natCast_ediv]
  congr 1
  rcases w0 b.toNat k.bits with hb|hb
  . rw[wV hb]
  . rw[wU hb,wZ x.isLt,wZ (Nat.lt_of_lt_of_le x.isLt (wW (by omega) hb))]
 rw[e]
theorem notU (a:Int):k.wrap ((BitVec.ofInt k.bits (if k.signed then -1 else k.max)^^^BitVec.ofInt k.bits a).toNat)=((~~~ BitVec.ofInt k.bits a).toNat:Int):=by
 rw[zj5 hs,zds]
 congr 2
 have:BitVec.ofInt k.bits (if k.signed then -1 else k.max)=BitVec.allOnes k.bits:=by
  rw[hs]
  simp only[wB,if_false,IntKind.max,hs]
  rw[zms,show(2:Int)^k.bits=((2^k.bits:Nat):Int) by simp,wG]
  have:BitVec.ofNat k.bits (2^k.bits)=0#k.bits:=by apply wF;simp
  rw[this,BitVec.zero_sub,<-BitVec.neg_one_eq_allOnes]
  rfl
 rw[this,BitVec.allOnes_xor]
end
theorem z78 (a:Int):IntKind.wrap .u8 a=((BitVec.ofInt 8 a).toNat:Int):=zj5 rfl a
theorem qgs (a b:Int):zan .and .u8 a b=some (.int .u8 ((BitVec.ofInt 8 a&&&BitVec.ofInt 8 b).toNat:Int)):=andU rfl a b
theorem qhn (a b:Int):zan .or .u8 a b=some (.int .u8 ((BitVec.ofInt 8 a|||BitVec.ofInt 8 b).toNat:Int)):=orU rfl a b
theorem qcz (a b:Int):zan .xor .u8 a b=some (.int .u8 ((BitVec.ofInt 8 a^^^BitVec.ofInt 8 b).toNat:Int)):=xorU rfl a b
theorem qgv (a b:Int):zan .add .u8 a b=some (.int .u8 ((BitVec.ofInt 8 a+BitVec.ofInt 8 b).toNat:Int)):=addU rfl a b
theorem qdc (a b:Int):zan .sub .u8 a b=some (.int .u8 ((BitVec.ofInt 8 a-BitVec.ofInt 8 b).toNat:Int)):=subU rfl a b
theorem qel (a b:Int):zan .mul .u8 a b=some (.int .u8 ((BitVec.ofInt 8 a*BitVec.ofInt 8 b).toNat:Int)):=mulU rfl a b
theorem qds (a b:Int)(h:0<=b):zbw .shl .u8 a b=some (.int .u8 ((BitVec.ofInt 8 a<<<b.toNat).toNat:Int)):=shlU rfl a b h
theorem qdr (x:BitVec 8)(b:Int)(h:0<=b):zbw .shr .u8 (x.toNat:Int) b=some (.int .u8 ((x>>>b.toNat).toNat:Int)):=shrU (k:=.u8) x b h
theorem qef (a:Int):IntKind.wrap .u8 ((BitVec.ofInt (IntKind.bits .u8) (if IntKind.signed .u8 then -1 else IntKind.max .u8)^^^BitVec.ofInt (IntKind.bits .u8) a).toNat)=((~~~ BitVec.ofInt 8 a).toNat:Int):=notU rfl a
theorem z29 (a:Int):IntKind.wrap .u16 a=((BitVec.ofInt 16 a).toNat:Int):=zj5 rfl a
theorem qco (a b:Int):zan .and .u16 a b=some (.int .u16 ((BitVec.ofInt 16 a&&&BitVec.ofInt 16 b).toNat:Int)):=andU rfl a b
theorem qd6 (a b:Int):zan .or .u16 a b=some (.int .u16 ((BitVec.ofInt 16 a|||BitVec.ofInt 16 b).toNat:Int)):=orU rfl a b
theorem z76 (a b:Int):zan .xor .u16 a b=some (.int .u16 ((BitVec.ofInt 16 a^^^BitVec.ofInt 16 b).toNat:Int)):=xorU rfl a b
theorem qcs (a b:Int):zan .add .u16 a b=some (.int .u16 ((BitVec.ofInt 16 a+BitVec.ofInt 16 b).toNat:Int)):=addU rfl a b
theorem z8t (a b:Int):zan .sub .u16 a b=some (.int .u16 ((BitVec.ofInt 16 a-BitVec.ofInt 16 b).toNat:Int)):=subU rfl a b
theorem z99 (a b:Int):zan .mul .u16 a b=some (.int .u16 ((BitVec.ofInt 16 a*BitVec.ofInt 16 b).toNat:Int)):=mulU rfl a b
theorem z9f (a b:Int)(h:0<=b):zbw .shl .u16 a b=some (.int .u16 ((BitVec.ofInt 16 a<<<b.toNat).toNat:Int)):=shlU rfl a b h
theorem z9b (x:BitVec 16)(b:Int)(h:0<=b):zbw .shr .u16 (x.toNat:Int) b=some (.int .u16 ((x>>>b.toNat).toNat:Int)):=shrU (k:=.u16) x b h
theorem z94 (a:Int):IntKind.wrap .u16 ((BitVec.ofInt (IntKind.bits .u16) (if IntKind.signed .u16 then -1 else IntKind.max .u16)^^^BitVec.ofInt (IntKind.bits .u16) a).toNat)=((~~~ BitVec.ofInt 16 a).toNat:Int):=notU rfl a
theorem z28 (a:Int):IntKind.wrap .u32 a=((BitVec.ofInt 32 a).toNat:Int):=zj5 rfl a
theorem qcn (a b:Int):zan .and .u32 a b=some (.int .u32 ((BitVec.ofInt 32 a&&&BitVec.ofInt 32 b).toNat:Int)):=andU rfl a b
theorem qd5 (a b:Int):zan .or .u32 a b=some (.int .u32 ((BitVec.ofInt 32 a|||BitVec.ofInt 32 b).toNat:Int)):=orU rfl a b
theorem z75 (a b:Int):zan .xor .u32 a b=some (.int .u32 ((BitVec.ofInt 32 a^^^BitVec.ofInt 32 b).toNat:Int)):=xorU rfl a b
theorem qcr (a b:Int):zan .add .u32 a b=some (.int .u32 ((BitVec.ofInt 32 a+BitVec.ofInt 32 b).toNat:Int)):=addU rfl a b
theorem z8s (a b:Int):zan .sub .u32 a b=some (.int .u32 ((BitVec.ofInt 32 a-BitVec.ofInt 32 b).toNat:Int)):=subU rfl a b
theorem z98 (a b:Int):zan .mul .u32 a b=some (.int .u32 ((BitVec.ofInt 32 a*BitVec.ofInt 32 b).toNat:Int)):=mulU rfl a b
theorem z9e (a b:Int)(h:0<=b):zbw .shl .u32 a b=some (.int .u32 ((BitVec.ofInt 32 a<<<b.toNat).toNat:Int)):=shlU rfl a b h
theorem z9a (x:BitVec 32)(b:Int)(h:0<=b):zbw .shr .u32 (x.toNat:Int) b=some (.int .u32 ((x>>>b.toNat).toNat:Int)):=shrU (k:=.u32) x b h
theorem z93 (a:Int):IntKind.wrap .u32 ((BitVec.ofInt (IntKind.bits .u32) (if IntKind.signed .u32 then -1 else IntKind.max .u32)^^^BitVec.ofInt (IntKind.bits .u32) a).toNat)=((~~~ BitVec.ofInt 32 a).toNat:Int):=notU rfl a
theorem ztr (a:Int):IntKind.wrap .u64 a=((BitVec.ofInt 64 a).toNat:Int):=zj5 rfl a
theorem qcm (a b:Int):zan .and .u64 a b=some (.int .u64 ((BitVec.ofInt 64 a&&&BitVec.ofInt 64 b).toNat:Int)):=andU rfl a b
theorem qd4 (a b:Int):zan .or .u64 a b=some (.int .u64 ((BitVec.ofInt 64 a|||BitVec.ofInt 64 b).toNat:Int)):=orU rfl a b
theorem z74 (a b:Int):zan .xor .u64 a b=some (.int .u64 ((BitVec.ofInt 64 a^^^BitVec.ofInt 64 b).toNat:Int)):=xorU rfl a b
theorem qcq (a b:Int):zan .add .u64 a b=some (.int .u64 ((BitVec.ofInt 64 a+BitVec.ofInt 64 b).toNat:Int)):=addU rfl a b
theorem z8r (a b:Int):zan .sub .u64 a b=some (.int .u64 ((BitVec.ofInt 64 a-BitVec.ofInt 64 b).toNat:Int)):=subU rfl a b
theorem z97 (a b:Int):zan .mul .u64 a b=some (.int .u64 ((BitVec.ofInt 64 a*BitVec.ofInt 64 b).toNat:Int)):=mulU rfl a b
theorem z9d (a b:Int)(h:0<=b):zbw .shl .u64 a b=some (.int .u64 ((BitVec.ofInt 64 a<<<b.toNat).toNat:Int)):=shlU rfl a b h
theorem z89 (x:BitVec 64)(b:Int)(h:0<=b):zbw .shr .u64 (x.toNat:Int) b=some (.int .u64 ((x>>>b.toNat).toNat:Int)):=shrU (k:=.u64) x b h
theorem z92 (a:Int):IntKind.wrap .u64 ((BitVec.ofInt (IntKind.bits .u64) (if IntKind.signed .u64 then -1 else IntKind.max .u64)^^^BitVec.ofInt (IntKind.bits .u64) a).toNat)=((~~~ BitVec.ofInt 64 a).toNat:Int):=notU rfl a
theorem za0 {a:Int}(h1:-9223372036854775808<=a)(h2:a<=9223372036854775807):IntKind.wrap .i64 a=a:=by
 simp only[IntKind.wrap,IntKind.bits,IntKind.signed,wC]
 simp only[wX,Int.reducePow]
 split<;>simp_all<;>omega
theorem zfv (x:BitVec 64):IntKind.wrap .i64 (x.toNat:Int)=x.toInt:=by
 simp only[IntKind.wrap,IntKind.bits,IntKind.signed,wC,wM]
 have:=x.isLt
 simp only[wX,Int.reducePow]
 split<;>simp_all<;>omega
theorem ze3 {w:Nat}(hw:w<=64)(x:BitVec 64):BitVec.ofInt w x.toInt=x.setWidth w:=by
 apply wF
 rw[BitVec.toNat_setWidth,wJ,wM]
 have hd:((2:Nat)^w) ∣ 2^64:=Nat.pow_dvd_pow 2 hw
 obtain⟨c,hc⟩:=hd
 have e:((2^64:Nat):Int)=((2^w:Nat):Int)*(c:Int):=by rw[hc];exact Int.natCast_mul _ _
 split
 . rw[<-wS];rfl
 . rw[e,Int.sub_mul_emod_self_left,<-wS];rfl
theorem sw8 (x:BitVec 64):BitVec.ofInt 8 x.toInt=x.setWidth 8:=ze3 (by omega) x
theorem sw16 (x:BitVec 64):BitVec.ofInt 16 x.toInt=x.setWidth 16:=ze3 (by omega) x
theorem sw32 (x:BitVec 64):BitVec.ofInt 32 x.toInt=x.setWidth 32:=ze3 (by omega) x
theorem sw64 (x:BitVec 64):BitVec.ofInt 64 x.toInt=x:=BitVec.ofInt_toInt
theorem qcp (a b:Int):zan .and .i64 a b=some (.int .i64 (BitVec.ofInt 64 a&&&BitVec.ofInt 64 b).toInt):=by
 simp only[zan];rw[show IntKind.bits .i64=64 from rfl,zfv]
theorem qd7 (a b:Int):zan .or .i64 a b=some (.int .i64 (BitVec.ofInt 64 a|||BitVec.ofInt 64 b).toInt):=by
 simp only[zan];rw[show IntKind.bits .i64=64 from rfl,zfv]
theorem zhj (a:Int):IntKind.wrap .i64 a=(BitVec.ofInt 64 a).toInt:=by
 rw[<-zfv,<-znk]
 simp only[IntKind.wrap,IntKind.bits,Int.emod_emod]
 rfl
theorem z9c (x:BitVec 64)(b:Int)(h:0<=b):zbw .shr .i64 x.toInt b=some (.int .i64 (x.sshiftRight b.toNat).toInt):=by
 have h':¬b<0:=by omega
 simp only[zbw,h',if_false,BitVec.toInt_sshiftRight,IntKind.bits]
 congr 2
 rw[Int.shiftRight_eq_div_pow,wN _ (wT (wR (by omega)))]
 rcases w0 b.toNat 64 with hb|hb
 . rw[wV hb];simp
 . rw[wU hb]
   have h1:=x.toInt_lt
   have h2:=x.le_toInt
   have h3:(2:Nat)^64<=2^b.toNat:=wW (by omega) hb
   have h4:((2:Nat)^b.toNat:Int)=(2:Int)^b.toNat:=by simp
   by_cases hx:0<=x.toInt
   . rw[wQ hx (by omega),wQ hx (by omega)]
   . have e1:x.toInt/(2:Int)^64=-1:=by omega
     have e2:x.toInt/(((2:Nat)^b.toNat:Nat):Int)=-1:=by
      apply Int.ediv_eq_neg_one_of_neg_of_le<;>omega
     rw[e1,e2]
theorem qe6 {n:Int}(h1:-9223372036854775808<=n)(h2:n<=9223372036854775807):∃x:BitVec 64,n=x.toInt :=
 ⟨BitVec.ofInt 64 n,by rw[<-zhj,za0 h1 h2]⟩
theorem qch (x:BitVec 64)(n:Nat)(h:n<2^64):((x.toNat:Int)==(n:Int))=(x==BitVec.ofNat 64 n):=by
 rw[Bool.eq_iff_iff,beq_iff_eq,beq_iff_eq,Int.natCast_inj]
 constructor
 . intro e;apply wF;rw[wH,wY h,e]
 . intro e;rw[e,wH,wY h]
theorem qci (x:BitVec 64):((x.toNat:Int)==1)=(x==1#64):=qch x 1 (by omega)
theorem ztf (n m:Nat):((n:Int)<(no_index (OfNat.ofNat m:Int)))=(n<@OfNat.ofNat Nat m (instOfNatNat m)):=by
 apply propext;exact wO
theorem ztg (n m:Nat):((n:Int)<=(no_index (OfNat.ofNat m:Int)))=(n<=@OfNat.ofNat Nat m (instOfNatNat m)):=by
 apply propext;exact wP
theorem zsr (n m:Nat):((no_index (OfNat.ofNat m:Int))<(n:Int))=(@OfNat.ofNat Nat m (instOfNatNat m)<n):=by
 apply propext;exact wO
theorem zss (n m:Nat):((no_index (OfNat.ofNat m:Int))<=(n:Int))=(@OfNat.ofNat Nat m (instOfNatNat m)<=n):=by
 apply propext;exact wP
theorem qgo (k:IntKind)(a b:Int):zan .eql k a b=some (.bool (a==b)):=rfl
theorem qgj (k:IntKind)(a b:Int):zan .neq k a b=some (.bool (a != b)):=rfl
theorem qgk (k:IntKind)(a b:Int):zan .lss k a b=some (.bool (a<b)):=rfl
theorem qgl (k:IntKind)(a b:Int):zan .leq k a b=some (.bool (a<=b)):=rfl
theorem qgm (k:IntKind)(a b:Int):zan .gtr k a b=some (.bool (a>b)):=rfl
theorem qgn (k:IntKind)(a b:Int):zan .geq k a b=some (.bool (a>=b)):=rfl
theorem z6s (a b:Int):zan .add .i64 a b=some (.int .i64 (IntKind.wrap .i64 (a+b))):=rfl
theorem z6q (a b:Int):zan .sub .i64 a b=some (.int .i64 (IntKind.wrap .i64 (a-b))):=rfl
theorem z6r (a b:Int):zan .mul .i64 a b=some (.int .i64 (IntKind.wrap .i64 (a*b))):=rfl
theorem qge (a b:List UInt8):zir .eql a b=some (.bool (a==b)):=rfl
theorem qgd (a b:List UInt8):zir .neq a b=some (.bool (!(a==b))):=rfl
theorem qgg {a b:List UInt8}(h:a.length+b.length<=LIM):zir .add a b=some (.str (a++b)):=by simp[zir,h]
theorem zal (l:List UInt8):(zad l).length=l.length:=by simp[zad]
theorem zj1 (l:List UInt8):(zad l).take l.length=zad l:=by rw[<-zal,w2]
theorem zl8 {l:List UInt8}{i:Nat}(h:i<l.length):(zad l)[i]? =some (.int .u8 (l[i].toBitVec.toNat:Int)):=by
 rw[zad,List.getElem?_map,List.getElem?_eq_getElem h];rfl
theorem zgx :∀(l:List UInt8),zgy (zad l)=some l
 | []=>rfl
 | b::l=>by
   have e:zad (b::l)= .int .u8 b.toNat::zad l:=rfl
   rw[e,zgy,byteOf,zgx l]
   simp
end Go.Ev
namespace Go.Ev
open Go
theorem zzi {hp hp':Hp}{j k n:Nat}{sh:Sh}:zic hp hp' j (.sl k [] 0 n) (.own sh)=(match hp.get k with
  | some (.grow sh' els)=>if Sh.beq sh sh'&&decide (n=els.length)then some (.sl (20000+j) [] 0 n,[.grow sh els])else none
  | _=>none):=rfl
theorem zvz {k:IntKind}{n:Int}:(AV.int k n).scalar=true:=rfl
theorem zr4 {b:Bool}:(AV.bool b).scalar=true:=rfl
theorem zvw {b:List UInt8}:(AV.str b).scalar=true:=rfl
theorem zvy {b:Bool}{sh:Sh}{l:List AV}:(AV.lst b sh l).scalar=true:=rfl
theorem zyv {k:Nat}{p:List Nat}{a b:Nat}:(AV.sl k p a b).scalar=true:=rfl
theorem zvx {k:Nat}{p:List Nat}:(AV.ptr k p).scalar=true:=rfl
theorem zv0 {l:List AV}:(AV.agg l).scalar=false:=rfl
section
variable {hp :Hp} {n:Nat}
theorem zz6 {k:IntKind}{x:Int}:zau hp n (.int k x)=some (.int k x):=by cases n<;>rfl
theorem zwi {b:Bool}:zau hp n (.bool b)=some (.bool b):=by cases n<;>rfl
theorem zz3 {b:List UInt8}:zau hp n (.str b)=some (.str b):=by cases n<;>rfl
theorem qam {v:Value}:zau hp n (.s v)=some (.s v):=by cases n<;>rfl
theorem zz7 {l:List AV}:zau hp n (.agg l)=some (.agg l):=by cases n<;>rfl
theorem zz5 {b:Bool}{sh:Sh}{l:List AV}:zau hp n (.lst b sh l)=some (.lst b sh l):=by cases n<;>rfl
theorem z43 {sh:Sh}{a:AV}:zau hp n (.cp sh a)=some (.cp sh a):=by cases n<;>rfl
theorem z41 {k:Nat}{p:List Nat}{off len:Nat}:zau hp (n+1) (.sl k p off len)=(zaz hp (.sl k p off len)).map fun c=>.lst false c.1 c.2:=rfl
def ptrK (hp:Hp)(n:Nat):Option Sh->Option AV->Option AV
 | some s,some x=>(zau hp n x).bind fun y=>if y.plain then some (.cp s y)else none
 | _,_=>none
def ptrO (hp:Hp)(n:Nat)(p:List Nat):Option OB->Option AV
 | some (.fix sh b)=>ptrK hp n (sh.sub p) (b.nav p)
 | _=>none
theorem zz4 {k:Nat}{p:List Nat}:zau hp (n+1) (.ptr k p)=ptrO hp n p (hp.get k):=by
 show(match hp.get k with|some (.fix sh b)=>_|_=>none)=_
 rcases hp.get k with _|_|_|_<;>first|rfl|(simp only[ptrO];rcases Sh.sub _ _ with _|_<;>rcases AV.nav _ _ with _|_<;>rfl)
def aggK :Option (List AV)->Option AV
 | some l=>if AV.plains l then some (.agg l)else none
 | none=>none
theorem zwj {l:List AV}:zau hp (n+1) (.aggR l)=aggK (mapO (zau hp n) l):=by
 show((mapO (zau hp n) l).bind fun l'=>if AV.plains l' then some (AV.agg l')else none)=_
 rcases mapO (zau hp n) l with _|_<;>rfl
theorem z42 {f:Nat}{l:List AV}:zau hp (n+1) (.fn f l)=(mapO (zau hp n) l).map (.fn f):=rfl
def qf9 :Option AV->Option (List AV)->Option (List AV)
 | some a,some l=>some (a::l)
 | _,_=>none
theorem zzy {f:AV->Option AV}{a:AV}{l:List AV}:mapO f (a::l)=qf9 (f a) (mapO f l):=by
 rw[mapO];rcases f a with _|_
 . rfl
 . rcases mapO f l with _|_<;>rfl
theorem zxr {a:AV}{l:List AV}:qf9 (some a) (some l)=some (a::l):=rfl
theorem z4r {f:AV->Option AV}:mapO f []=some []:=rfl
def retK (args:List AV)(hp:Hp)(d:Nat):Option (AV×Hp×List OB)->Option (AV×Hp)
 | some (r,[],[])=>if AV.plains args||zcx r then some (r,[])else none
 | some (r,[],e::es)=>if AV.plains args||(zcx r&&(e::es).all ze5)then(zb7 hp d 0 (e::es)).map fun us=>(rn d r,us)else none
 | _=>none
def qcb (cl:Cl)(hp:Hp)(d f:Nat)(args:List AV):Option (List AV)->Option (AV×Hp)
 | some as=>retK args hp d (cl f as [])
 | none=>none
theorem z6b {cl:Cl}{d f:Nat}{args:List AV}:zcs cl hp d f args .lend=qcb cl hp d f args (mapO (zau hp 4) args):=by
 simp only[zcs]
 rcases mapO (zau hp 4) args with _|as
 . rfl
 . simp only[wE,qcb]
   rcases cl f as []with _|⟨r,_|⟨_,_⟩,_|⟨_,_⟩⟩<;>rfl
theorem zxv {cl:Cl}{d f:Nat}{args as:List AV}:qcb cl hp d f args (some as)=retK args hp d (cl f as []):=rfl
theorem z34 {d:Nat}{args:List AV}{r:AV}:retK args hp d (some (r,[],[]))=if AV.plains args||zcx r then some (r,[])else none:=rfl
theorem z35 {d:Nat}{args:List AV}{r:AV}{e:OB}{es:List OB}:retK args hp d (some (r,[],e::es))=if AV.plains args||(zcx r&&(e::es).all ze5)then(zb7 hp d 0 (e::es)).map fun us=>(rn d r,us)else none:=rfl
end
attribute [go_sem] zvz zr4 zvw zvy zyv zvx zv0 zzi ze5
attribute [go_sem] z53 zs4 zs6 zl2 zs5 z56 z1y z55 zab Opd.val Fr.get St.upd Fr.upd Hp.get zao za3 AV.scalars AV.isAgg AV.kids Sh.sub Sh.agg AV.nav Sh.sizes Sh.size zgf z2t zi2 AV.mk AV.plains AV.plain AV.setNav
attribute [go_sem] zwc zx3 zz6 zwi zz3 qam zz7 zz5 z43 z41 zz4 ptrO ptrK zwj aggK z42 zzy z4r zxr AV.known z0g zhu z51 z1u zjd zhw zi6 zys z3s zyt zti zxz ztj z1r z5y z37 z38 z36 zsh zp9 zv7 zxs z1p zsg zp8 z4m zsk zwb zsl z4i frOf vals
attribute [go_sem] zdw zj8 zge bnds zaz sub Sh.beq Sh.beqs
attribute [go_sem] Option.map_some Option.map_none wE List.map List.cons_append List.nil_append List.headD List.tail List.take ite_true ite_false if_true if_false List.getElem?_cons_zero List.getElem?_cons_succ List.set_cons_zero List.set_cons_succ List.length_cons List.length_nil and_self and_true true_and Option.isNone_none Option.isNone_some Bool.and_true wC Bool.and_self decide_true List.replicate List.drop List.isEmpty_nil List.isEmpty_cons
attribute [go_sem] wO wP Int.natCast_nonneg qdr qds qgs qhn qcz qgv qdc qel z78 qef z9b z9f qco qd6 z76 qcs z8t z99 z29 z94 z9a z9e qcn qd5 z75 qcr z8s z98 z28 z93 z89 z9d qcm qd4 z74 qcq z8r z97 ztr z92 zds wG BitVec.ofNat_toNat BitVec.setWidth_eq
attribute [go_sem] z6b zxv z34 z35 zcx zc2 ze5 zb7 rn rns zdf mvKs keyL zri qdq rnMv rn1 rnFr rnHp sw Kp.keys Kp.owns Kp.ownSrc Kp.slotRefs zwl zsv AV.refs AV.refss List.append_nil List.contains_nil List.contains_cons List.all_nil w1 Bool.not_false wD Bool.or_true Bool.true_or Bool.or_false Bool.false_or
attribute [go_sem] ztf ztg zsr zss ge_iff_le gt_iff_lt Nat.lt_irrefl Nat.le_refl Nat.zero_le Int.cast_ofNat_Int Int.natCast_zero Int.natCast_one decide_false decide_true qci zal zgx sw8 sw16 sw32 sw64 zfv
attribute [go_sem] z1x zxt zta zxq z0n z48 z54
attribute [go_sem] Nat.zero_add Nat.add_zero Int.toNat_natCast
attribute [go_sem] z1v z0l qaq qat qar qas z0m zsj zv9 z0k zo8 z01 z04 z02 z03 beq_self_eq_true
attribute [go_sem] zj1 w2
attribute [go_sem] List.length_append eq_self
attribute [go_sem] qge qgd qgg qgo qgj qgk qgl qgm qgn z6s z6q z6r
theorem zxm {cl:Cl}{hp:Hp}{d f:Nat}{args:List AV}:zcs cl hp d f args .imp=if f<RB then zbu cl hp d f args (zat hp (AV.refss args))else none:=by rw[zcs]
theorem zsy {hp hp':Hp}{d:Nat}{ks:List Nat}{r:AV}{es:List OB}:zus hp d ks (some (r,hp',es))=if zbg hp' 0 ks.length then(layG hp ks d 0 es).map fun us=>(rA (dn ks d) r,zdg ks d hp'++us)else none:=rfl
def zje (hp:Hp)(all:List Nat):List Nat->Bool
 | []=>true
 | k::l=>((hp.get k).isSome&&(zlk (hp.get k)).all all.contains)&&zje hp all l
def zln (hp:Hp)(all:List Nat):List Nat->List OB
 | []=>[]
 | k::l=>rOB (nm all) (getO hp k)::zln hp all l
def inL :List Nat->Bool
 | []=>true
 | k::l=>decide (SHK<=k)&&inL l
def outL :List Nat->Bool
 | []=>true
 | k::l=>decide (k<SHK)&&outL l
theorem zl5 (hp:Hp)(all:List Nat):∀l:List Nat,zje hp all l=l.all fun k=>(hp.get k).isSome&&(zlk (hp.get k)).all all.contains
 | []=>rfl
 | k::l=>by rw[zje,zl5 hp all l,w1]
theorem zlm (hp:Hp)(all:List Nat):∀l:List Nat,zln hp all l=l.map fun k=>rOB (nm all) (getO hp k)
 | []=>rfl
 | k::l=>by rw[zln,zlm hp all l,List.map_cons]
theorem z0x :∀l:List Nat,inL l=l.all fun k=>decide (SHK<=k)
 | []=>rfl
 | k::l=>by rw[inL,z0x l,w1]
theorem zt7 :∀l:List Nat,outL l=l.all fun k=>decide (k<SHK)
 | []=>rfl
 | k::l=>by rw[outL,zt7 l,w1]
theorem zrf (hp:Hp)(ks:List Nat):zdc hp ks=zje hp ks ks:=(zl5 hp ks ks).symm
theorem z9y (st:St)(hk:List Nat)(rs:List AV)(E:List Nat):zfd st hk rs E =
  if zje st.hp (hk++E) (hk++E)&&(AV.refss rs).all (hk++E).contains&&zge (hk++E)&&inL hk&&outL E&&decide (E.length<1000)&&AV.knowns rs then
   some (rAs (nm E) rs,zd6 st.hp E hk,zln st.hp E E)
  else none:=by
 rw[zfd,zrf,z0x,zt7,zlm]
attribute [go_sem] zje zln inL outL
attribute [go_sem] RB zxm zsy zbu zat zeg zrf zlk zei getO idx up dn rA rAs rOB upHp zdg zbg layG SHK zvc ksA bigs z1s z5z z1o zzz z9y zco z9r zch zd6 nm zol AV.knowns Option.getD_some List.getD_cons_zero List.getD_cons_succ Option.isSome_some Option.isSome_none
end Go.Ev
