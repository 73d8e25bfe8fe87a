/-
  For the evaluator's user: evaluation by simp, no lambda on the way. No condition.
-/
import Derived.Test.YtcddalfeicoedaaGreatDoorEvD
import Derived.Attr
set_option linter.all false
open Bool renaming false_eq_true->wA,true_and->wB,not_true->wC
open Option renaming bind_some->wD
open BitVec renaming eq_of_toNat_eq->wE,ofInt_natCast->wF,toNat_ofNat->wG,toNat_ofInt->wH,ofInt_mul->wI,ofInt_add->wJ,toInt->wK
open Int renaming fdiv_eq_ediv_of_nonneg->wL,ofNat_lt->wM,ofNat_le->wN,ediv_eq_zero_of_lt->wO,pow_pos->wP,natCast_emod->wQ,le_of_lt->wR
open Nat renaming min_eq_right->wS,min_eq_left->wT,pow_le_pow_right->wU,add_one_sub_one->wV,mod_eq_of_lt->wW,div_eq_of_lt->wX,le_total->wY
open List renaming all_cons->wZ,take_length->w0
namespace Go.Ev
open Go
class Lq (p:Prop):Prop where
 t:True
instance {α :Type} {a b:α}:Lq (a=b):=⟨trivial⟩
instance {α :Type} [LE α] {a b:α}:Lq (a<=b):=⟨trivial⟩
instance {α :Type} [LT α] {a b:α}:Lq (a<b):=⟨trivial⟩
instance {a b:Prop}:Lq (a/\b):=⟨trivial⟩
instance {a b:Prop}:Lq (a\/b):=⟨trivial⟩
instance {a b:Prop}:Lq (a↔b):=⟨trivial⟩
theorem zq {p:Prop}[Lq p](h:p):p:=h
abbrev Its.o (d:Nat)(m:MOp)(r:Its):Its:=.op (some d) m r
abbrev Its.u (m:MOp)(r:Its):Its:=.op none m r
abbrev FO.o (d:Nat)(m:MOp):FO:=⟨some d,m,none⟩
abbrev FO.u (m:MOp):FO:=⟨none,m,none⟩
abbrev FO.w (d g:Nat)(b:Bool)(m:MOp):FO:=⟨some d,m,some (g,b)⟩
abbrev MOp.m (i:Nat):MOp:=.mov (.t i)
abbrev MOp.l (i:Nat):MOp:=.load false 1 (.t i)
abbrev MOp.L (n i:Nat):MOp:=.load true n (.t i)
abbrev MOp.a (i off x:Nat):MOp:=.faddr i off (.t x)
abbrev MOp.b (op:BinOp)(x y:Nat):MOp:=.bin op (.t x) (.t y)
abbrev MOp.S (n p x:Nat):MOp:=.store n (.t p) (.t x)
abbrev MOp.x (t i:Nat):MOp:=.extr (.t t) i
abbrev MOp.n (t:Nat):MOp:=.len false (.t t)
abbrev MOp.I (esz x i:Nat):MOp:=.iaddrS esz (.t x) (.t i)
abbrev MOp.q (a b:Nat):MOp:=.pick (.t a) (.t b) (.c (.bool false))
abbrev Opd.i (n:Int):Opd:=.c (.int .i64 n)
def seqK (gl:Gl)(cl:Cl)(b:MC):Option (Ex×St)->Option (Ex×St)
 | some (.norm,st)=>evC gl cl b st
 | r=>r
def znw (id:Nat):Option (Ex×St)->Option (Ex×St)
 | some (e,st)=>some (if e= .exit id then .norm else e,st)
 | none=>none
def qi5 (ks:List Kp):Option (Ex×St)->Option (Ex×St)
 | some (.norm,st)=>(zc3 ks st).map fun st=>(.norm,st)
 | r=>r
def z9q :Option St->Option (Ex×St)
 | some st=>some (.norm,st)
 | none=>none
def itsK (gl:Gl)(cl:Cl)(d:Option Nat)(rest:Its)(st:St):Option (AV×Hp)->Option St
 | some (v,us)=>zcs gl cl rest (st.upd d v us)
 | none=>none
def iteK (gl:Gl)(cl:Cl)(lo hi d:Nat)(rest:Its)(st:St):Option AV->Option St
 | some x=>zcs gl cl rest {fr:=.set d x::.clr lo hi::st.fr,hp:=st.hp}
 | none=>none
def fnK (fd:Fd):Option (Ex×St)->Option (AV×Hp×List OB)
 | some (.norm,st)|some (.ret,st)=>(zgl st fd.res fd.pk).map fun z=>(match z.1 with|[a]=>a|l=>.tup l,[],z.2)
 | _=>none
section
variable {gl :Gl} {cl:Cl} {st:St}
theorem z55 :evC gl cl .skip st=some (.norm,st):=rfl
theorem qa9 :evC gl cl .ret st=some (.ret,st):=rfl
theorem z58 {i:Nat}:evC gl cl (.exit i) st=some (.exit i,st):=rfl
theorem qa8 {a b:MC}:evC gl cl (.seq a b) st=seqK gl cl b (evC gl cl a st):=by
 rw[evC];rcases evC gl cl a st with _|⟨_|_|_,_⟩<;>rfl
theorem zyo {b:MC}:seqK gl cl b (some (.norm,st))=evC gl cl b st:=by rw[seqK]
theorem z27 {b:MC}:seqK gl cl b (some (.ret,st))=some (.ret,st):=rfl
theorem zyp {b:MC}{i:Nat}:seqK gl cl b (some (.exit i,st))=some (.exit i,st):=rfl
theorem z1m {i:Nat}{b:MC}:evC gl cl (.block i b) st=znw i (evC gl cl b st):=by
 rw[evC];rcases evC gl cl b st with _|⟨_,_⟩<;>rfl
theorem ztj {i:Nat}:znw i (some (.norm,st))=some (.norm,st):=rfl
theorem zxx {i:Nat}:znw i (some (.ret,st))=some (.ret,st):=rfl
theorem ztk {i j:Nat}:znw i (some (.exit j,st))=some (if j=i then .norm else .exit j,st):=by simp[znw]
theorem z57 {ks:List Kp}{b:MC}:evC gl cl (.kept ks b) st=qi5 ks (evC gl cl b st):=by
 rw[evC];rcases evC gl cl b st with _|⟨_|_|_,_⟩<;>rfl
theorem qba {i:Its}:evC gl cl (.reg i) st=z9q (zcs gl cl i st):=by rw[evC];cases zcs gl cl i st<;>rfl
theorem zwh :z9q (some st)=some (.norm,st):=rfl
theorem z1h :zcs gl cl .nil st=some st:=rfl
theorem z53 {d:Option Nat}{m:MOp}{r:Its}:zcs gl cl (.op d m r) st=itsK gl cl d r st (zad gl cl st d m):=by
 rw[zcs];rcases zad gl cl st d m with _|⟨_,_⟩<;>rfl
theorem zz7 {d:Option Nat}{r:Its}{v:AV}{us:Hp}:itsK gl cl d r st (some (v,us))=zcs gl cl r (st.upd d v us):=by rw[itsK]
end
def zb3 (gl:Gl)(cl:Cl):List FO->St->Option St
 | [],st=>some st
 | o::l,st =>
   match o.g with
   | none=>(zad gl cl st o.d o.m).bind fun r=>zb3 gl cl l (st.upd o.d r.1 r.2)
   | some (c,want) =>
     match st.fr.get c with
     | .bool t=>if t=want then(zad gl cl st o.d o.m).bind fun r=>zb3 gl cl l (st.upd o.d r.1 r.2)else zb3 gl cl l (st.upd o.d (.tup []) [])
     | .tup []=>zb3 gl cl l (st.upd o.d (.tup []) [])
     | _=>none
def znl (gl:Gl)(cl:Cl)(d:Option Nat)(l:List FO)(st:St):Option (AV×Hp)->Option St
 | some (v,us)=>zb3 gl cl l (st.upd d v us)
 | none=>none
section
variable {gl :Gl} {cl:Cl} {st:St}
theorem zjk :∀{l:List FO} {st:St},(zbs gl cl l st).map (·.1)=zb3 gl cl l st
 | [],st=>rfl
 | o::l,st=>by
   have ih:=fun st=>zjk (l:=l) (st:=st)
   obtain⟨d,m,g⟩:=o
   cases g with
   | none=>simp only[zbs,zb3];cases zad gl cl st d m<;>simp[<-ih,Function.comp_def]
   | some p =>
     obtain⟨c,want⟩:=p
     simp only[zbs,zb3]
     cases st.fr.get c with
     | bool t=>by_cases h:t=want<;>simp only[h,if_true,if_false]<;>first|(cases zad gl cl st d m<;>simp[<-ih,Function.comp_def];done)|simp[<-ih,Function.comp_def]
     | tup l=>cases l<;>simp[<-ih,Function.comp_def]
     | _=>rfl
theorem z1k {l:List FO}:evC gl cl (.draw l []) st=z9q (zb3 gl cl l st):=by
 rw[evC,<-zjk];rcases zbs gl cl l st with _|⟨_,_⟩<;>rfl
theorem zs6 :zb3 gl cl [] st=some st:=rfl
theorem zxh {d:Option Nat}{m:MOp}{l:List FO}:zb3 gl cl (⟨d,m,none⟩::l) st=znl gl cl d l st (zad gl cl st d m):=by
 rw[zb3];rcases zad gl cl st d m with _|⟨_,_⟩<;>rfl
theorem zs3 {d:Option Nat}{l:List FO}{v:AV}{us:Hp}:znl gl cl d l st (some (v,us))=zb3 gl cl l (st.upd d v us):=by rw[znl]
end
theorem qa6 {gl:Gl}{cl:Cl}{fd:Fd}{args:List AV}(hg:zjg fd.pk=false):evFn gl cl fd args []=fnK fd (evC gl cl fd.body {fr:=frOf 0 args,hp:=[]}):=by
 rw[evFn,hg];simp only[wA,if_false];rcases evC gl cl fd.body _ with _|⟨_|_|_,_⟩<;>rfl
theorem qbs {gl:Gl}{tab:Nat->Option Fd}{n f:Nat}{args:List AV}{fd:Fd}(h:tab f=some fd)(hg:zjg fd.pk=false)(hv:fd.giv=none:=by rfl):call gl tab (n+1) f args []=fnK fd (evC gl (call gl tab n) fd.body {fr:=frOf 0 args,hp:=[]}):=by
 rw[call,h];simp only[wD,hv];exact qa6 hg
theorem zku {gl:Gl}{tab:Nat->Option Fd}{n f:Nat}{args:List AV}{imps:Hp}{fd:Fd}{g}(h:tab f=some fd)(hv:fd.giv=some g:=by rfl):call gl tab (n+1) f args imps=g gl (call gl tab n) args imps:=by
 rw[call,h];simp only[wD,hv]
theorem zl2 {f:St->Option (Ex×St)}{ks:List Kp}{n:Nat}{st st1 st2:St}(h:zc3 ks st=some st1)(hf:f st1=some (.norm,st2)):iter f ks (n+1) st=iter f ks n st2:=by
 rw[iter,h];simp[hf]
theorem zkp {f:St->Option (Ex×St)}{ks:List Kp}{n:Nat}{st st1 st2:St}{e:Ex}(h:zc3 ks st=some st1)(hf:f st1=some (e,st2))(he:e≠.norm):iter f ks (n+1) st=some (e,st2):=by
 rw[iter,h];cases e<;>simp_all
theorem z4f {f:St->Option (Ex×St)}{ks:List Kp}(S:Nat->St)(N:Nat){st out:St}{e:Ex}(hN:N<LF)
  (h0:zc3 ks st=some (S 0)) (hs:∀i,i<N->∃st2,f (S i)=some (.norm,st2)/\zc3 ks st2=some (S (i+1))) (he:f (S N)=some (e,out)) (hne:e≠.norm) :
  iter f ks LF st=some (e,out):=by
 have key:∀(d i n:Nat) (st:St),i+d=N->d<n->zc3 ks st=some (S i)->iter f ks n st=some (e,out):=by
  intro d
  induction d with
  | zero =>
    intro i n st hi hn hc
    obtain⟨n,rfl⟩:∃m,n=m+1:=⟨n-1,by omega⟩
    have:i=N:=by omega
    subst this
    exact zkp hc he hne
  | succ d ih =>
    intro i n st hi hn hc
    obtain⟨n,rfl⟩:∃m,n=m+1:=⟨n-1,by omega⟩
    obtain⟨st2,h1,h2⟩:=hs i (by omega)
    rw[zl2 hc h1]
    exact ih (i+1) n st2 (by omega) (by omega) h2
 exact key N 0 LF st (by omega) hN h0
end Go.Ev
namespace Go.Ev
open Go
def finK (res:List ResD)(pk:List Pk):Option (Ex×St)->Option (AV×Hp×List OB)
 | some (.norm,st)|some (.ret,st)=>(zgl st res pk).map fun z=>(match z.1 with|[a]=>a|l=>.tup l,[],z.2)
 | _=>none
theorem zaf {gl:Gl}{tab:Nat->Option Fd}{n f:Nat}{args:List AV}{fd:Fd}(h:tab f=some fd)(hg:zjg fd.pk=false:=by rfl)(hv:fd.giv=none:=by rfl):call gl tab (n+1) f args []=finK fd.res fd.pk (evC gl (call gl tab n) fd.body {fr:=frOf 0 args,hp:=[]}):=by
 rw[qbs h hg hv];rcases evC gl (call gl tab n) fd.body _ with _|⟨_|_|_,_⟩<;>rfl
def resK :Option (List AV×List OB)->Option (AV×Hp×List OB)
 | some ([a],es)=>some (a,[],es)
 | some (l,es)=>some (.tup l,[],es)
 | none=>none
theorem z1c {res:List ResD}{pk:List Pk}{st:St}:finK res pk (some (.norm,st))=resK (zgl st res pk):=by
 simp only[finK];rcases zgl st res pk with _|⟨_|⟨a,_|⟨b,l⟩⟩,es⟩<;>rfl
theorem z4x {res:List ResD}{pk:List Pk}{st:St}:finK res pk (some (.ret,st))=resK (zgl st res pk):=by
 simp only[finK];rcases zgl st res pk with _|⟨_|⟨a,_|⟨b,l⟩⟩,es⟩<;>rfl
theorem z3n {a:AV}{es:List OB}:resK (some ([a],es))=some (a,[],es):=rfl
theorem z3o {es:List OB}:resK (some ([],es))=some (.tup [],[],es):=rfl
theorem z3m {a b:AV}{l:List AV}{es:List OB}:resK (some (a::b::l,es))=some (.tup (a::b::l),[],es):=rfl
def qbj (a:AV):Option (List AV)->Option (List AV)
 | some l=>some (a::l)
 | none=>none
def z9f (st:St)(rs:List ResD):Option AV->Option (List AV)
 | some a=>qbj a (zbc st rs)
 | none=>none
theorem zse {st:St}:zbc st []=some []:=rfl
theorem zqi {st:St}{r:ResD}{rs:List ResD}:zbc st (r::rs)=z9f st rs (ze7 st r):=by
 rw[zbc];rcases ze7 st r with _|a
 . rfl
 . simp only[wD,z9f];rcases zbc st rs with _|l<;>rfl
theorem zwb {st:St}{rs:List ResD}{a:AV}:z9f st rs (some a)=qbj a (zbc st rs):=rfl
theorem zxs {a:AV}{l:List AV}:qbj a (some l)=some (a::l):=rfl
def fstK :Option (AV×Hp)->Option AV
 | some q=>some q.1
 | none=>none
theorem z07 {a:AV}{us:Hp}:fstK (some (a,us))=some a:=rfl
theorem zsd {st:St}{t:Nat}:ze7 st (.tmp t)=some (st.fr.get t):=rfl
theorem zqh {st:St}{t n:Nat}{ag:Bool}:ze7 st (.cell t ag n)=fstK (zad Gl.none (fun _ _ _=>none) st none (.load ag n (.t t))):=by
 rw[ze7];rcases zad _ _ st none _ with _|⟨a,b⟩<;>rfl
def z67 (st:St)(pks:List Pk):Option (List AV)->Option (List AV×List OB)
 | some rs=>if zgm (zd1 rs pks)then zd8 st.hp (zke (zd1 rs pks)++st.hp) 0 rs pks else none
 | none=>none
theorem z32 {st:St}{res:List ResD}{pks:List Pk}:zgl st res pks=z67 st pks (zbc st res):=by
 rw[zgl];rcases zbc st res with _|rs<;>rfl
theorem zsj {st:St}{pks:List Pk}{rs:List AV}:z67 st pks (some rs)=if zgm (zd1 rs pks)then zd8 st.hp (zke (zd1 rs pks)++st.hp) 0 rs pks else none:=rfl
def prK (hp hp':Hp)(j:Nat)(rs:List AV)(pks:List Pk):Option (AV×List OB)->Option (List AV×List OB)
 | some (a,es)=>(zd8 hp hp' (j+es.length) rs pks).map fun z=>(a::z.1,es++z.2)
 | none=>none
theorem zwe {hp hp':Hp}{j:Nat}{pks:List Pk}:zd8 hp hp' j [] pks=some ([],[]):=by cases pks<;>rfl
theorem zsk {hp hp':Hp}{j:Nat}{r:AV}{rs:List AV}{pks:List Pk}:zd8 hp hp' j (r::rs) pks=prK hp hp' j rs pks.tail (zil hp hp' j r (pks.headD .asis)):=by
 rw[zd8];rcases zil hp hp' j r (pks.headD .asis)with _|⟨a,es⟩<;>rfl
theorem z3z {hp hp':Hp}{j:Nat}{rs:List AV}{pks:List Pk}{a:AV}{es:List OB}:prK hp hp' j rs pks (some (a,es))=(zd8 hp hp' (j+es.length) rs pks).map fun z=>(a::z.1,es++z.2):=rfl
def qf5 :Option AV->Option (AV×List OB)
 | some a=>if a.known then some (a,[])else none
 | none=>none
theorem zwf {hp hp':Hp}{j:Nat}{r:AV}:zil hp hp' j r .asis=qf5 (zaz hp' 4 r):=by
 rw[zil];rcases zaz hp' 4 r with _|a<;>rfl
theorem zx3 {a:AV}:qf5 (some a)=if a.known then some (a,[])else none:=rfl
end Go.Ev
namespace Go.Ev
open Go
theorem z56 {gl:Gl}{cl:Cl}{ks:List Kp}{b:MC}{st:St}:evC gl cl (.loop ks b) st=iter (evC gl cl b) ks LF st:=rfl
end Go.Ev
namespace Go.Ev
open Go
def zbm (ks:List Kp):Option (Ex×St)->Option St
 | some (.norm,st)=>zc3 ks st
 | _=>none
theorem zxq {ks:List Kp}{st:St}:zbm ks (some (.norm,st))=zc3 ks st:=rfl
def isEx :Option (Ex×St)->Bool
 | some (.exit _,_)=>true
 | some (.ret,_)=>true
 | _=>false
theorem z0e {i:Nat}{st:St}:isEx (some (.exit i,st))=true:=rfl
theorem z4g {st:St}:isEx (some (.ret,st))=true:=rfl
theorem zam {f:St->Option (Ex×St)}{ks:List Kp}(S:Nat->St)(N:Nat){st:St}(hN:N<LF)(h0:zc3 ks st=some (S 0))(hs:∀i,i<N->zbm ks (f (S i))=some (S (i+1)))(he:isEx (f (S N))=true) :
  iter f ks LF st=f (S N):=by
 cases h:f (S N)with
 | none=>rw[h]at he;cases he
 | some r =>
   obtain⟨e,out⟩:=r
   refine z4f S N hN h0 (fun i hi=> ?_) h (by rw[h]at he;cases e<;>simp_all[isEx])
   have:=hs i hi
   unfold zbm at this
   split at this
   . rename_i st2 h2;exact⟨st2,h2,this⟩
   . cases this
end Go.Ev
namespace Go.Ev
open Go
def qbk (gl:Gl)(cl:Cl)(a b:MC)(st:St):AV->Option (Ex×St)
 | .bool true=>evC gl cl a st
 | .bool false=>evC gl cl b st
 | _=>none
theorem z1l {gl:Gl}{cl:Cl}{c:Opd}{a b:MC}{st:St}:evC gl cl (.cond c a b) st=qbk gl cl a b st (c.val gl st.fr):=by
 rw[evC];cases c.val gl st.fr<;>first|rfl|(rename_i t;cases t<;>rfl)
theorem zxt {gl:Gl}{cl:Cl}{a b:MC}{st:St}:qbk gl cl a b st (.bool true)=evC gl cl a st:=rfl
theorem ztc {gl:Gl}{cl:Cl}{a b:MC}{st:St}:qbk gl cl a b st (.bool false)=evC gl cl b st:=rfl
def zqr (x:AV):Option AV:=if x.plain then some x else none
def iteC (gl:Gl)(a:Opd):Option St->Option AV
 | some st1=>zqr (a.val gl st1.fr)
 | none=>none
def iteS (gl:Gl)(cl:Cl)(w t:Bool)(blk:Its)(a b:Opd)(st:St):Option AV :=
 if t=w then iteC gl (if w then a else b) (zcs gl cl blk st)else some ((if w then b else a).val gl st.fr)
def iteD (gl:Gl)(cl:Cl)(w:Bool)(blk:Its)(lo hi d:Nat)(a b:Opd)(rest:Its)(st:St):AV->Option St
 | .bool t=>iteK gl cl lo hi d rest st (iteS gl cl w t blk a b st)
 | _=>none
def zgr (gl:Gl)(cl:Cl)(d:Option Nat)(m:MOp)(w:Bool)(l:List FO)(st:St):AV->Option St
 | .bool t=>if t=w then znl gl cl d l st (zad gl cl st d m)else zb3 gl cl l (st.upd d (.tup []) [])
 | .tup []=>zb3 gl cl l (st.upd d (.tup []) [])
 | _=>none
section
variable {gl :Gl} {cl:Cl} {st:St}
theorem z1i {c:Nat}{w:Bool}{blk:Its}{lo hi d:Nat}{a b:Opd}{rest:Its} :
  zcs gl cl (.ite c w blk lo hi d a b rest) st=iteD gl cl w blk lo hi d a b rest st (st.fr.get c):=by
 rw[zcs]
 cases st.fr.get c with
 | bool t =>
   simp only[iteD,iteS]
   split
   . cases w<;>(simp only[if_true,if_false,wA];cases zcs gl cl blk st with
      | none=>rfl
      | some st1=>simp only[wD,iteC,zqr];split<;>rfl)
   . rfl
 | _=>rfl
theorem z0c {t w:Bool}{blk:Its}{lo hi d:Nat}{a b:Opd}{rest:Its}:iteD gl cl w blk lo hi d a b rest st (.bool t)=iteK gl cl lo hi d rest st (iteS gl cl w t blk a b st):=rfl
theorem qah {blk:Its}{a b:Opd}:iteS gl cl true true blk a b st=iteC gl a (zcs gl cl blk st):=rfl
theorem qak {blk:Its}{a b:Opd}:iteS gl cl false false blk a b st=iteC gl b (zcs gl cl blk st):=rfl
theorem qai {blk:Its}{a b:Opd}:iteS gl cl true false blk a b st=some (b.val gl st.fr):=rfl
theorem qaj {blk:Its}{a b:Opd}:iteS gl cl false true blk a b st=some (a.val gl st.fr):=rfl
theorem z0d {a:Opd}{st1:St}:iteC gl a (some st1)=zqr (a.val gl st1.fr):=rfl
theorem zsh {b:Bool}:zqr (.bool b)=some (.bool b):=rfl
theorem zwc {k:IntKind}{n:Int}:zqr (.int k n)=some (.int k n):=rfl
theorem z0b {lo hi d:Nat}{rest:Its}{x:AV}:iteK gl cl lo hi d rest st (some x)=zcs gl cl rest {fr:=.set d x::.clr lo hi::st.fr,hp:=st.hp}:=rfl
theorem zpn {d:Option Nat}{m:MOp}{c:Nat}{w:Bool}{l:List FO}:zb3 gl cl (⟨d,m,some (c,w)⟩::l) st=zgr gl cl d m w l st (st.fr.get c):=by
 rw[zb3]
 simp only
 generalize st.fr.get c=v
 cases v with
 | bool t =>
   simp only[zgr]
   by_cases h:t=w
   . simp only[h,if_true];rcases zad gl cl st d m with _|⟨_,_⟩<;>rfl
   . simp only[h,if_false]
 | tup l=>cases l<;>rfl
 | _=>rfl
theorem z0p {d:Option Nat}{m:MOp}{l:List FO}:zgr gl cl d m true l st (.bool true)=znl gl cl d l st (zad gl cl st d m):=by rw[zgr,if_pos rfl]
theorem z0s {d:Option Nat}{m:MOp}{l:List FO}:zgr gl cl d m false l st (.bool false)=znl gl cl d l st (zad gl cl st d m):=by rw[zgr,if_pos rfl]
theorem z0q {d:Option Nat}{m:MOp}{l:List FO}:zgr gl cl d m true l st (.bool false)=zb3 gl cl l (st.upd d (.tup []) []):=by rw[zgr,if_neg (by decide)]
theorem z0r {d:Option Nat}{m:MOp}{l:List FO}:zgr gl cl d m false l st (.bool true)=zb3 gl cl l (st.upd d (.tup []) []):=by rw[zgr,if_neg (by decide)]
end
end Go.Ev
namespace Go.Ev
open Go
def mapG :Option (List AV×Hp×List OB)->Option (AV×Hp×List OB)
 | some (l,hp,es)=>some (zqz l,hp,es)
 | none=>none
def genK (st:St)(hk:List Nat):Option (List AV)->Option (AV×Hp×List OB)
 | some rs=>mapG (zfg st hk rs (zch st hk rs))
 | none=>none
def finG (res:List ResD)(hk:List Nat):Option (Ex×St)->Option (AV×Hp×List OB)
 | some (.norm,st)|some (.ret,st)=>genK st hk (zbc st res)
 | _=>none
theorem za3 {gl:Gl}{tab:Nat->Option Fd}{n f:Nat}{args:List AV}{imps:Hp}{fd:Fd}(h:tab f=some fd)(hg:zjg fd.pk=true:=by rfl)(hm:mcLt fd.body=true:=by rfl)(hv:fd.giv=none:=by rfl) :
  call gl tab (n+1) f args imps=finG fd.res (zcc imps) (evC gl (call gl tab n) fd.body {fr:=frOf 0 args,hp:=imps}):=by
 have key:∀st:St,((zbc st fd.res).bind fun rs=>(zfg st (zcc imps) rs (zch st (zcc imps) rs)).map fun z=>(zqz z.1,z.2.1,z.2.2))=genK st (zcc imps) (zbc st fd.res):=fun st=>by
  rcases zbc st fd.res with _|rs
  . rfl
  . simp only[wD,genK]
    rcases zfg st (zcc imps) rs (zch st (zcc imps) rs)with _|⟨_,_,_⟩<;>rfl
 rw[call,h]
 simp only[wD,hv,evFn,hg,hm,if_true,wC,wA,if_false]
 rcases evC gl (call gl tab n) fd.body _ with _|⟨_|_|_,st⟩
 . rfl
 . exact key st
 . rfl
 . exact key st
theorem zrh {res:List ResD}{hk:List Nat}{st:St}:finG res hk (some (.norm,st))=genK st hk (zbc st res):=rfl
theorem zu2 {res:List ResD}{hk:List Nat}{st:St}:finG res hk (some (.ret,st))=genK st hk (zbc st res):=rfl
theorem zma {st:St}{hk:List Nat}{rs:List AV}:genK st hk (some rs)=mapG (zfg st hk rs (zch st hk rs)):=rfl
theorem zzv {l:List AV}{hp:Hp}{es:List OB}:mapG (some (l,hp,es))=some (zqz l,hp,es):=rfl
end Go.Ev
namespace Go.Ev
open Go
theorem znr (w:Nat)(a:Int):a%(2^w:Int)=((BitVec.ofInt w a).toNat:Int):=by
 rw[wH]
 have h:(0:Int)<2^w:=wP (by omega)
 have h1:=Int.emod_nonneg a (Int.ne_of_gt h)
 have e:((2^w:Nat):Int)=(2:Int)^w:=by simp
 rw[e]
 exact(Int.toNat_of_nonneg h1).symm
theorem zds {w:Nat}(x:BitVec w):BitVec.ofInt w (x.toNat:Int)=x:=by simp
theorem zm8 (w:Nat)(a b:Int):BitVec.ofInt w (a-b)=BitVec.ofInt w a-BitVec.ofInt w b:=by
 rw[Int.sub_eq_add_neg,wJ,BitVec.ofInt_neg,BitVec.sub_eq_add_neg]
theorem zkb {k:IntKind}(hs:k.signed=false)(a:Int):k.wrap a=((BitVec.ofInt k.bits a).toNat:Int):=by
 rw[<-znr];simp[IntKind.wrap,hs]
section
variable {k :IntKind} (hs:k.signed=false)
include hs
theorem andU (a b:Int):zas .and k a b=some (.int k ((BitVec.ofInt k.bits a&&&BitVec.ofInt k.bits b).toNat:Int)):=by
 simp only[zas,zkb hs,zds]
theorem orU (a b:Int):zas .or k a b=some (.int k ((BitVec.ofInt k.bits a|||BitVec.ofInt k.bits b).toNat:Int)):=by
 simp only[zas,zkb hs,zds]
theorem xorU (a b:Int):zas .xor k a b=some (.int k ((BitVec.ofInt k.bits a^^^BitVec.ofInt k.bits b).toNat:Int)):=by
 simp only[zas,zkb hs,zds]
theorem addU (a b:Int):zas .add k a b=some (.int k ((BitVec.ofInt k.bits a+BitVec.ofInt k.bits b).toNat:Int)):=by
 simp only[zas,zkb hs,wJ]
theorem subU (a b:Int):zas .sub k a b=some (.int k ((BitVec.ofInt k.bits a-BitVec.ofInt k.bits b).toNat:Int)):=by
 simp only[zas,zkb hs,zm8]
theorem mulU (a b:Int):zas .mul k a b=some (.int k ((BitVec.ofInt k.bits a*BitVec.ofInt k.bits b).toNat:Int)):=by
 simp only[zas,zkb hs,wI]
theorem shlU (a b:Int)(h:0<=b):zbv .shl k a b=some (.int k ((BitVec.ofInt k.bits a<<<b.toNat).toNat:Int)):=by
 have h':¬b<0:=by omega
 simp only[zbv,h',if_false,zkb hs]
 have e:BitVec.ofInt k.bits (a*2^min b.toNat k.bits)=BitVec.ofInt k.bits a<<<b.toNat:=by
  rw[wI]
  rcases Nat.lt_or_ge b.toNat k.bits with hb|hb
  . rw[wT (Nat.le_of_lt hb)]
    have:BitVec.ofInt k.bits (2^b.toNat)=BitVec.twoPow k.bits b.toNat:=by
     rw[show(2:Int)^b.toNat=((2^b.toNat:Nat):Int) by simp,wF,BitVec.twoPow_eq]
     apply wE
     simp[Nat.shiftLeft_eq]
    rw[this,BitVec.mul_twoPow_eq_shiftLeft]
  . rw[wS hb,BitVec.shiftLeft_eq_zero hb]
    have:BitVec.ofInt k.bits (2^k.bits)=0#k.bits:=by
     rw[show(2:Int)^k.bits=((2^k.bits:Nat):Int) by simp,wF]
     apply wE
     simp
    rw[this,BitVec.mul_zero]
 rw[e]
omit hs in
theorem shrU {k:IntKind}(x:BitVec k.bits)(b:Int)(h:0<=b):zbv .shr k (x.toNat:Int) b=some (.int k ((x>>>b.toNat).toNat:Int)):=by
 have h':¬b<0:=by omega
 simp only[zbv,h',if_false]
 have e:((x.toNat:Int)).fdiv (2^min b.toNat k.bits)=((x>>>b.toNat).toNat:Int):=by
  rw[BitVec.toNat_ushiftRight,Nat.shiftRight_eq_div_pow,wL _ (wR (wP (by omega)))]
  rw[show(2:Int)^min b.toNat k.bits=((2^min b.toNat k.bits:Nat):Int) by simp,<-Int.natCast_ediv]
  congr 1
  rcases wY b.toNat k.bits with hb|hb
  . rw[wT hb]
  . rw[wS hb,wX x.isLt,wX (Nat.lt_of_lt_of_le x.isLt (wU (by omega) hb))]
 rw[e]
theorem notU (a:Int):k.wrap ((BitVec.ofInt k.bits (if k.signed then -1 else k.max)^^^BitVec.ofInt k.bits a).toNat)=((~~~ BitVec.ofInt k.bits a).toNat:Int):=by
 rw[zkb hs,zds]
 congr 2
 have:BitVec.ofInt k.bits (if k.signed then -1 else k.max)=BitVec.allOnes k.bits:=by
  rw[hs]
  simp only[wA,if_false,IntKind.max,hs]
  rw[zm8,show(2:Int)^k.bits=((2^k.bits:Nat):Int) by simp,wF]
  have:BitVec.ofNat k.bits (2^k.bits)=0#k.bits:=by apply wE;simp
  rw[this,BitVec.zero_sub,<-BitVec.neg_one_eq_allOnes]
  rfl
 rw[this,BitVec.allOnes_xor]
end
theorem z7x (a:Int):IntKind.wrap .u8 a=((BitVec.ofInt 8 a).toNat:Int):=zkb rfl a
theorem qga (a b:Int):zas .and .u8 a b=some (.int .u8 ((BitVec.ofInt 8 a&&&BitVec.ofInt 8 b).toNat:Int)):=andU rfl a b
theorem qg2 (a b:Int):zas .or .u8 a b=some (.int .u8 ((BitVec.ofInt 8 a|||BitVec.ofInt 8 b).toNat:Int)):=orU rfl a b
theorem qch (a b:Int):zas .xor .u8 a b=some (.int .u8 ((BitVec.ofInt 8 a^^^BitVec.ofInt 8 b).toNat:Int)):=xorU rfl a b
theorem qgb (a b:Int):zas .add .u8 a b=some (.int .u8 ((BitVec.ofInt 8 a+BitVec.ofInt 8 b).toNat:Int)):=addU rfl a b
theorem qcy (a b:Int):zas .sub .u8 a b=some (.int .u8 ((BitVec.ofInt 8 a-BitVec.ofInt 8 b).toNat:Int)):=subU rfl a b
theorem qdz (a b:Int):zas .mul .u8 a b=some (.int .u8 ((BitVec.ofInt 8 a*BitVec.ofInt 8 b).toNat:Int)):=mulU rfl a b
theorem qde (a b:Int)(h:0<=b):zbv .shl .u8 a b=some (.int .u8 ((BitVec.ofInt 8 a<<<b.toNat).toNat:Int)):=shlU rfl a b h
theorem qdd (x:BitVec 8)(b:Int)(h:0<=b):zbv .shr .u8 (x.toNat:Int) b=some (.int .u8 ((x>>>b.toNat).toNat:Int)):=shrU (k:=.u8) x b h
theorem qdy (a:Int):IntKind.wrap .u8 ((BitVec.ofInt (IntKind.bits .u8) (if IntKind.signed .u8 then -1 else IntKind.max .u8)^^^BitVec.ofInt (IntKind.bits .u8) a).toNat)=((~~~ BitVec.ofInt 8 a).toNat:Int):=notU rfl a
theorem z2w (a:Int):IntKind.wrap .u16 a=((BitVec.ofInt 16 a).toNat:Int):=zkb rfl a
theorem qb5 (a b:Int):zas .and .u16 a b=some (.int .u16 ((BitVec.ofInt 16 a&&&BitVec.ofInt 16 b).toNat:Int)):=andU rfl a b
theorem qdu (a b:Int):zas .or .u16 a b=some (.int .u16 ((BitVec.ofInt 16 a|||BitVec.ofInt 16 b).toNat:Int)):=orU rfl a b
theorem z7u (a b:Int):zas .xor .u16 a b=some (.int .u16 ((BitVec.ofInt 16 a^^^BitVec.ofInt 16 b).toNat:Int)):=xorU rfl a b
theorem qb9 (a b:Int):zas .add .u16 a b=some (.int .u16 ((BitVec.ofInt 16 a+BitVec.ofInt 16 b).toNat:Int)):=addU rfl a b
theorem z8c (a b:Int):zas .sub .u16 a b=some (.int .u16 ((BitVec.ofInt 16 a-BitVec.ofInt 16 b).toNat:Int)):=subU rfl a b
theorem z9w (a b:Int):zas .mul .u16 a b=some (.int .u16 ((BitVec.ofInt 16 a*BitVec.ofInt 16 b).toNat:Int)):=mulU rfl a b
theorem z8u (a b:Int)(h:0<=b):zbv .shl .u16 a b=some (.int .u16 ((BitVec.ofInt 16 a<<<b.toNat).toNat:Int)):=shlU rfl a b h
theorem z8q (x:BitVec 16)(b:Int)(h:0<=b):zbv .shr .u16 (x.toNat:Int) b=some (.int .u16 ((x>>>b.toNat).toNat:Int)):=shrU (k:=.u16) x b h
theorem z9p (a:Int):IntKind.wrap .u16 ((BitVec.ofInt (IntKind.bits .u16) (if IntKind.signed .u16 then -1 else IntKind.max .u16)^^^BitVec.ofInt (IntKind.bits .u16) a).toNat)=((~~~ BitVec.ofInt 16 a).toNat:Int):=notU rfl a
theorem z2v (a:Int):IntKind.wrap .u32 a=((BitVec.ofInt 32 a).toNat:Int):=zkb rfl a
theorem qb4 (a b:Int):zas .and .u32 a b=some (.int .u32 ((BitVec.ofInt 32 a&&&BitVec.ofInt 32 b).toNat:Int)):=andU rfl a b
theorem qdt (a b:Int):zas .or .u32 a b=some (.int .u32 ((BitVec.ofInt 32 a|||BitVec.ofInt 32 b).toNat:Int)):=orU rfl a b
theorem z7t (a b:Int):zas .xor .u32 a b=some (.int .u32 ((BitVec.ofInt 32 a^^^BitVec.ofInt 32 b).toNat:Int)):=xorU rfl a b
theorem qb8 (a b:Int):zas .add .u32 a b=some (.int .u32 ((BitVec.ofInt 32 a+BitVec.ofInt 32 b).toNat:Int)):=addU rfl a b
theorem z8b (a b:Int):zas .sub .u32 a b=some (.int .u32 ((BitVec.ofInt 32 a-BitVec.ofInt 32 b).toNat:Int)):=subU rfl a b
theorem z9v (a b:Int):zas .mul .u32 a b=some (.int .u32 ((BitVec.ofInt 32 a*BitVec.ofInt 32 b).toNat:Int)):=mulU rfl a b
theorem z8t (a b:Int)(h:0<=b):zbv .shl .u32 a b=some (.int .u32 ((BitVec.ofInt 32 a<<<b.toNat).toNat:Int)):=shlU rfl a b h
theorem z8p (x:BitVec 32)(b:Int)(h:0<=b):zbv .shr .u32 (x.toNat:Int) b=some (.int .u32 ((x>>>b.toNat).toNat:Int)):=shrU (k:=.u32) x b h
theorem z9o (a:Int):IntKind.wrap .u32 ((BitVec.ofInt (IntKind.bits .u32) (if IntKind.signed .u32 then -1 else IntKind.max .u32)^^^BitVec.ofInt (IntKind.bits .u32) a).toNat)=((~~~ BitVec.ofInt 32 a).toNat:Int):=notU rfl a
theorem zn2 (a:Int):IntKind.wrap .u64 a=((BitVec.ofInt 64 a).toNat:Int):=zkb rfl a
theorem qb3 (a b:Int):zas .and .u64 a b=some (.int .u64 ((BitVec.ofInt 64 a&&&BitVec.ofInt 64 b).toNat:Int)):=andU rfl a b
theorem qds (a b:Int):zas .or .u64 a b=some (.int .u64 ((BitVec.ofInt 64 a|||BitVec.ofInt 64 b).toNat:Int)):=orU rfl a b
theorem z7s (a b:Int):zas .xor .u64 a b=some (.int .u64 ((BitVec.ofInt 64 a^^^BitVec.ofInt 64 b).toNat:Int)):=xorU rfl a b
theorem qb7 (a b:Int):zas .add .u64 a b=some (.int .u64 ((BitVec.ofInt 64 a+BitVec.ofInt 64 b).toNat:Int)):=addU rfl a b
theorem z8a (a b:Int):zas .sub .u64 a b=some (.int .u64 ((BitVec.ofInt 64 a-BitVec.ofInt 64 b).toNat:Int)):=subU rfl a b
theorem z9u (a b:Int):zas .mul .u64 a b=some (.int .u64 ((BitVec.ofInt 64 a*BitVec.ofInt 64 b).toNat:Int)):=mulU rfl a b
theorem z8s (a b:Int)(h:0<=b):zbv .shl .u64 a b=some (.int .u64 ((BitVec.ofInt 64 a<<<b.toNat).toNat:Int)):=shlU rfl a b h
theorem z8o (x:BitVec 64)(b:Int)(h:0<=b):zbv .shr .u64 (x.toNat:Int) b=some (.int .u64 ((x>>>b.toNat).toNat:Int)):=shrU (k:=.u64) x b h
theorem zsm (a:Int):IntKind.wrap .u64 ((BitVec.ofInt (IntKind.bits .u64) (if IntKind.signed .u64 then -1 else IntKind.max .u64)^^^BitVec.ofInt (IntKind.bits .u64) a).toNat)=((~~~ BitVec.ofInt 64 a).toNat:Int):=notU rfl a
theorem zay {a:Int}(h1:-9223372036854775808<=a)(h2:a<=9223372036854775807):IntKind.wrap .i64 a=a:=by
 simp only[IntKind.wrap,IntKind.bits,IntKind.signed,wB]
 simp only[wV,Int.reducePow]
 split<;>simp_all<;>omega
theorem zht (x:BitVec 64):IntKind.wrap .i64 (x.toNat:Int)=x.toInt:=by
 simp only[IntKind.wrap,IntKind.bits,IntKind.signed,wB,wK]
 have:=x.isLt
 simp only[wV,Int.reducePow]
 split<;>simp_all<;>omega
theorem ze8 {w:Nat}(hw:w<=64)(x:BitVec 64):BitVec.ofInt w x.toInt=x.setWidth w:=by
 apply wE
 rw[BitVec.toNat_setWidth,wH,wK]
 have hd:((2:Nat)^w) ∣ 2^64:=Nat.pow_dvd_pow 2 hw
 obtain⟨c,hc⟩:=hd
 have e:((2^64:Nat):Int)=((2^w:Nat):Int)*(c:Int):=by rw[hc];exact Int.natCast_mul _ _
 split
 . rw[<-wQ];rfl
 . rw[e,Int.sub_mul_emod_self_left,<-wQ];rfl
theorem sw8 (x:BitVec 64):BitVec.ofInt 8 x.toInt=x.setWidth 8:=ze8 (by omega) x
theorem sw16 (x:BitVec 64):BitVec.ofInt 16 x.toInt=x.setWidth 16:=ze8 (by omega) x
theorem sw32 (x:BitVec 64):BitVec.ofInt 32 x.toInt=x.setWidth 32:=ze8 (by omega) x
theorem sw64 (x:BitVec 64):BitVec.ofInt 64 x.toInt=x:=BitVec.ofInt_toInt
theorem qb6 (a b:Int):zas .and .i64 a b=some (.int .i64 (BitVec.ofInt 64 a&&&BitVec.ofInt 64 b).toInt):=by
 simp only[zas];rw[show IntKind.bits .i64=64 from rfl,zht]
theorem zmm (a:Int):IntKind.wrap .i64 a=(BitVec.ofInt 64 a).toInt:=by
 rw[<-zht,<-znr]
 simp only[IntKind.wrap,IntKind.bits,Int.emod_emod]
 rfl
theorem z8r (x:BitVec 64)(b:Int)(h:0<=b):zbv .shr .i64 x.toInt b=some (.int .i64 (x.sshiftRight b.toNat).toInt):=by
 have h':¬b<0:=by omega
 simp only[zbv,h',if_false,BitVec.toInt_sshiftRight,IntKind.bits]
 congr 2
 rw[Int.shiftRight_eq_div_pow,wL _ (wR (wP (by omega)))]
 rcases wY b.toNat 64 with hb|hb
 . rw[wT hb];simp
 . rw[wS hb]
   have h1:=x.toInt_lt
   have h2:=x.le_toInt
   have h3:(2:Nat)^64<=2^b.toNat:=wU (by omega) hb
   have h4:((2:Nat)^b.toNat:Int)=(2:Int)^b.toNat:=by simp
   by_cases hx:0<=x.toInt
   . rw[wO hx (by omega),wO hx (by omega)]
   . have e1:x.toInt/(2:Int)^64=-1:=by omega
     have e2:x.toInt/(((2:Nat)^b.toNat:Nat):Int)=-1:=by
      apply Int.ediv_eq_neg_one_of_neg_of_le<;>omega
     rw[e1,e2]
theorem qef {n:Int}(h1:-9223372036854775808<=n)(h2:n<=9223372036854775807):∃x:BitVec 64,n=x.toInt :=
 ⟨BitVec.ofInt 64 n,by rw[<-zmm,zay h1 h2]⟩
theorem qbw (x:BitVec 64)(n:Nat)(h:n<2^64):((x.toNat:Int)==(n:Int))=(x==BitVec.ofNat 64 n):=by
 rw[Bool.eq_iff_iff,beq_iff_eq,beq_iff_eq,Int.natCast_inj]
 constructor
 . intro e;apply wE;rw[wG,wW h,e]
 . intro e;rw[e,wG,wW h]
theorem qbx (x:BitVec 64):((x.toNat:Int)==1)=(x==1#64):=qbw x 1 (by omega)
theorem zth (n m:Nat):((n:Int)<(no_index (OfNat.ofNat m:Int)))=(n<@OfNat.ofNat Nat m (instOfNatNat m)):=by
 apply propext;exact wM
theorem zti (n m:Nat):((n:Int)<=(no_index (OfNat.ofNat m:Int)))=(n<=@OfNat.ofNat Nat m (instOfNatNat m)):=by
 apply propext;exact wN
theorem zsr (n m:Nat):((no_index (OfNat.ofNat m:Int))<(n:Int))=(@OfNat.ofNat Nat m (instOfNatNat m)<n):=by
 apply propext;exact wM
theorem zss (n m:Nat):((no_index (OfNat.ofNat m:Int))<=(n:Int))=(@OfNat.ofNat Nat m (instOfNatNat m)<=n):=by
 apply propext;exact wN
theorem qf4 (k:IntKind)(a b:Int):zas .eql k a b=some (.bool (a==b)):=rfl
theorem qfz (k:IntKind)(a b:Int):zas .neq k a b=some (.bool (a != b)):=rfl
theorem qf0 (k:IntKind)(a b:Int):zas .lss k a b=some (.bool (a<b)):=rfl
theorem qf1 (k:IntKind)(a b:Int):zas .leq k a b=some (.bool (a<=b)):=rfl
theorem qf2 (k:IntKind)(a b:Int):zas .gtr k a b=some (.bool (a>b)):=rfl
theorem qf3 (k:IntKind)(a b:Int):zas .geq k a b=some (.bool (a>=b)):=rfl
theorem z6u (a b:Int):zas .add .i64 a b=some (.int .i64 (IntKind.wrap .i64 (a+b))):=rfl
theorem z6s (a b:Int):zas .sub .i64 a b=some (.int .i64 (IntKind.wrap .i64 (a-b))):=rfl
theorem z6t (a b:Int):zas .mul .i64 a b=some (.int .i64 (IntKind.wrap .i64 (a*b))):=rfl
theorem qfw (a b:List UInt8):znx .eql a b=some (.bool (a==b)):=rfl
theorem qfv (a b:List UInt8):znx .neq a b=some (.bool (!(a==b))):=rfl
theorem qfx {a b:List UInt8}(h:a.length+b.length<=LIM):znx .add a b=some (.str (a++b)):=by simp[znx,h]
theorem zab (l:List UInt8):(zac l).length=l.length:=by simp[zac]
theorem zj7 (l:List UInt8):(zac l).take l.length=zac l:=by rw[<-zab,w0]
theorem zh5 {l:List UInt8}{i:Nat}(h:i<l.length):(zac l)[i]? =some (.int .u8 (l[i].toBitVec.toNat:Int)):=by
 rw[zac,List.getElem?_map,List.getElem?_eq_getElem h];rfl
theorem zgz :∀(l:List UInt8),zg0 (zac l)=some l
 | []=>rfl
 | b::l=>by
   have e:zac (b::l)= .int .u8 b.toNat::zac l:=rfl
   rw[e,zg0,byteOf,zgz l]
   simp
end Go.Ev
namespace Go.Ev
open Go
theorem zzj {hp hp':Hp}{j k n:Nat}{sh:Sh}:zil hp hp' j (.sl k [] 0 n) (.own sh)=(match hp.get k with
  | some (.grow sh' els)=>if Sh.beq sh sh'&&decide (n=els.length)then some (.sl (20000+j) [] 0 n,[.grow sh els])else none
  | _=>none):=rfl
theorem zv3 {k:IntKind}{n:Int}:(AV.int k n).scalar=true:=rfl
theorem zr1 {b:Bool}:(AV.bool b).scalar=true:=rfl
theorem zv0 {b:List UInt8}:(AV.str b).scalar=true:=rfl
theorem zv2 {b:Bool}{sh:Sh}{l:List AV}:(AV.lst b sh l).scalar=true:=rfl
theorem zys {k:Nat}{p:List Nat}{a b:Nat}:(AV.sl k p a b).scalar=true:=rfl
theorem zv1 {k:Nat}{p:List Nat}:(AV.ptr k p).scalar=true:=rfl
theorem zv4 {l:List AV}:(AV.agg l).scalar=false:=rfl
section
variable {hp :Hp} {n:Nat}
theorem zz0 {k:IntKind}{x:Int}:zaz hp n (.int k x)=some (.int k x):=by cases n<;>rfl
theorem zwi {b:Bool}:zaz hp n (.bool b)=some (.bool b):=by cases n<;>rfl
theorem zzx {b:List UInt8}:zaz hp n (.str b)=some (.str b):=by cases n<;>rfl
theorem qaa {v:Value}:zaz hp n (.s v)=some (.s v):=by cases n<;>rfl
theorem zz1 {l:List AV}:zaz hp n (.agg l)=some (.agg l):=by cases n<;>rfl
theorem zzz {b:Bool}{sh:Sh}{l:List AV}:zaz hp n (.lst b sh l)=some (.lst b sh l):=by cases n<;>rfl
theorem z4a {sh:Sh}{a:AV}:zaz hp n (.cp sh a)=some (.cp sh a):=by cases n<;>rfl
theorem z38 {k:Nat}{p:List Nat}{off len:Nat}:zaz hp (n+1) (.sl k p off len)=(zbj hp (.sl k p off len)).map fun c=>.lst false c.1 c.2:=rfl
def ptrK (hp:Hp)(n:Nat):Option Sh->Option AV->Option AV
 | some s,some x=>(zaz hp n x).bind fun y=>if y.plain then some (.cp s y)else none
 | _,_=>none
def ptrO (hp:Hp)(n:Nat)(p:List Nat):Option OB->Option AV
 | some (.fix sh b)=>ptrK hp n (sh.sub p) (b.nav p)
 | _=>none
theorem zzy {k:Nat}{p:List Nat}:zaz hp (n+1) (.ptr k p)=ptrO hp n p (hp.get k):=by
 show(match hp.get k with|some (.fix sh b)=>_|_=>none)=_
 rcases hp.get k with _|_|_|_<;>first|rfl|(simp only[ptrO];rcases Sh.sub _ _ with _|_<;>rcases AV.nav _ _ with _|_<;>rfl)
def aggK :Option (List AV)->Option AV
 | some l=>if AV.plains l then some (.agg l)else none
 | none=>none
theorem zwj {l:List AV}:zaz hp (n+1) (.aggR l)=aggK (mapO (zaz hp n) l):=by
 show((mapO (zaz hp n) l).bind fun l'=>if AV.plains l' then some (AV.agg l')else none)=_
 rcases mapO (zaz hp n) l with _|_<;>rfl
theorem z39 {f:Nat}{l:List AV}:zaz hp (n+1) (.fn f l)=(mapO (zaz hp n) l).map (.fn f):=rfl
def qfo :Option AV->Option (List AV)->Option (List AV)
 | some a,some l=>some (a::l)
 | _,_=>none
theorem zzu {f:AV->Option AV}{a:AV}{l:List AV}:mapO f (a::l)=qfo (f a) (mapO f l):=by
 rw[mapO];rcases f a with _|_
 . rfl
 . rcases mapO f l with _|_<;>rfl
theorem zxr {a:AV}{l:List AV}:qfo (some a) (some l)=some (a::l):=rfl
theorem z36 {f:AV->Option AV}:mapO f []=some []:=rfl
def retK (args:List AV)(hp:Hp)(d:Nat):Option (AV×Hp×List OB)->Option (AV×Hp)
 | some (r,[],[])=>if AV.plains args||zc2 r then some (r,[])else none
 | some (r,[],e::es)=>if AV.plains args||(zc2 r&&(e::es).all ze9)then(zca hp d 0 (e::es)).map fun us=>(rn d r,us)else none
 | _=>none
def qbt (cl:Cl)(hp:Hp)(d f:Nat)(args:List AV):Option (List AV)->Option (AV×Hp)
 | some as=>retK args hp d (cl f as [])
 | none=>none
theorem z6c {cl:Cl}{d f:Nat}{args:List AV}:zcv cl hp d f args .lend=qbt cl hp d f args (mapO (zaz hp 4) args):=by
 simp only[zcv]
 rcases mapO (zaz hp 4) args with _|as
 . rfl
 . simp only[wD,qbt]
   rcases cl f as []with _|⟨r,_|⟨_,_⟩,_|⟨_,_⟩⟩<;>rfl
theorem zxv {cl:Cl}{d f:Nat}{args as:List AV}:qbt cl hp d f args (some as)=retK args hp d (cl f as []):=rfl
theorem z3k {d:Nat}{args:List AV}{r:AV}:retK args hp d (some (r,[],[]))=if AV.plains args||zc2 r then some (r,[])else none:=rfl
theorem z3l {d:Nat}{args:List AV}{r:AV}{e:OB}{es:List OB}:retK args hp d (some (r,[],e::es))=if AV.plains args||(zc2 r&&(e::es).all ze9)then(zca hp d 0 (e::es)).map fun us=>(rn d r,us)else none:=rfl
end
attribute [go_sem] zv3 zr1 zv0 zv2 zys zv1 zv4 zzj ze9
attribute [go_sem] z55 qa8 qba z1k qa9 z58 z1m z57 zad Opd.val Fr.get St.upd Fr.upd Hp.get zap za8 AV.scalars AV.isAgg AV.kids Sh.sub Sh.agg AV.nav Sh.sizes Sh.size zpw z2i zlm AV.mk AV.plains AV.plain AV.setNav
attribute [go_sem] zwf zx3 zz0 zwi zzx qaa zz1 zzz z4a z38 zzy ptrO ptrK zwj aggK z39 zzu z36 zxr AV.known zz7 zs3 z53 z1h zxh zs6 zwh zyo z27 zyp ztj zxx ztk z1c z4x z3n z3o z3m zse zqi zwb zxs z07 zsd zqh z32 zsj zwe zsk z3z frOf vals
attribute [go_sem] zd1 zke zgm bnds zbj sub Sh.beq Sh.beqs
attribute [go_sem] Option.map_some Option.map_none wD List.map List.cons_append List.nil_append List.headD List.tail List.take ite_true ite_false if_true if_false List.getElem?_cons_zero List.getElem?_cons_succ List.set_cons_zero List.set_cons_succ List.length_cons List.length_nil and_self and_true true_and Option.isNone_none Option.isNone_some Bool.and_true wB Bool.and_self decide_true List.replicate List.drop List.isEmpty_nil List.isEmpty_cons
attribute [go_sem] wM wN Int.natCast_nonneg qdd qde qga qg2 qch qgb qcy qdz z7x qdy z8q z8u qb5 qdu z7u qb9 z8c z9w z2w z9p z8p z8t qb4 qdt z7t qb8 z8b z9v z2v z9o z8o z8s qb3 qds z7s qb7 z8a z9u zn2 zsm zds wF BitVec.ofNat_toNat BitVec.setWidth_eq
attribute [go_sem] z6c zxv z3k z3l zc2 zdt ze9 zca rn rns zc3 mvKs keyL zrp qdc rnMv rn1 rnFr rnHp sw Kp.keys Kp.owns Kp.ownSrc Kp.slotRefs zwl zsu AV.refs AV.refss List.append_nil List.contains_nil List.contains_cons List.all_nil wZ Bool.not_false wC Bool.or_true Bool.true_or Bool.or_false Bool.false_or
attribute [go_sem] zth zti zsr zss ge_iff_le gt_iff_lt Nat.lt_irrefl Nat.le_refl Nat.zero_le Int.cast_ofNat_Int Int.natCast_zero Int.natCast_one decide_false decide_true qbx zab zgz sw8 sw16 sw32 sw64 zht
attribute [go_sem] z1l zxt ztc zxq z0e z4g z56
attribute [go_sem] Nat.zero_add Nat.add_zero Int.toNat_natCast
attribute [go_sem] z1i z0c qah qak qai qaj z0d zsh zwc z0b zpn z0p z0s z0q z0r beq_self_eq_true
attribute [go_sem] zj7 w0
attribute [go_sem] List.length_append eq_self
attribute [go_sem] qfw qfv qfx qf4 qfz qf0 qf1 qf2 qf3 z6u z6s z6t
theorem zxk {cl:Cl}{hp:Hp}{d f:Nat}{args:List AV}:zcv cl hp d f args .imp=if f<RB then zbi cl hp d f args (zax hp (AV.refss args))else none:=by rw[zcv]
theorem zsy {hp hp':Hp}{d:Nat}{ks:List Nat}{r:AV}{es:List OB}:zus hp d ks (some (r,hp',es))=if zbp hp' 0 ks.length then(layG hp ks d 0 es).map fun us=>(rA (dn ks d) r,zdh ks d hp'++us)else none:=rfl
def zjo (hp:Hp)(all:List Nat):List Nat->Bool
 | []=>true
 | k::l=>((hp.get k).isSome&&(zmq (hp.get k)).all all.contains)&&zjo hp all l
def zlw (hp:Hp)(all:List Nat):List Nat->List OB
 | []=>[]
 | k::l=>rOB (nm all) (getO hp k)::zlw hp all l
def inL :List Nat->Bool
 | []=>true
 | k::l=>decide (SHK<=k)&&inL l
def outL :List Nat->Bool
 | []=>true
 | k::l=>decide (k<SHK)&&outL l
theorem zmj (hp:Hp)(all:List Nat):∀l:List Nat,zjo hp all l=l.all fun k=>(hp.get k).isSome&&(zmq (hp.get k)).all all.contains
 | []=>rfl
 | k::l=>by rw[zjo,zmj hp all l,wZ]
theorem zlv (hp:Hp)(all:List Nat):∀l:List Nat,zlw hp all l=l.map fun k=>rOB (nm all) (getO hp k)
 | []=>rfl
 | k::l=>by rw[zlw,zlv hp all l,List.map_cons]
theorem z0i :∀l:List Nat,inL l=l.all fun k=>decide (SHK<=k)
 | []=>rfl
 | k::l=>by rw[inL,z0i l,wZ]
theorem zuf :∀l:List Nat,outL l=l.all fun k=>decide (k<SHK)
 | []=>rfl
 | k::l=>by rw[outL,zuf l,wZ]
theorem zrl (hp:Hp)(ks:List Nat):zdm hp ks=zjo hp ks ks:=(zmj hp ks ks).symm
theorem z9m (st:St)(hk:List Nat)(rs:List AV)(E:List Nat):zfg st hk rs E =
  if zjo st.hp (hk++E) (hk++E)&&(AV.refss rs).all (hk++E).contains&&zgm (hk++E)&&inL hk&&outL E&&decide (E.length<1000)&&AV.knowns rs then
   some (rAs (nm E) rs,ze2 st.hp E hk,zlw st.hp E E)
  else none:=by
 rw[zfg,zrl,z0i,zuf,zlv]
attribute [go_sem] zjo zlw inL outL
attribute [go_sem] RB zxk zsy zbi zax zek zrl zmq zev getO idx up dn rA rAs rOB upHp zdh zbp layG SHK zvk ksA bigs zrh zu2 zma zzv z9m zch z9d zcc ze2 nm zqz AV.knowns Option.getD_some List.getD_cons_zero List.getD_cons_succ Option.isSome_some Option.isSome_none
end Go.Ev
