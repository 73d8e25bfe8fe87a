/-
  For the evaluator's user: evaluation by simp, no lambda on the way. No condition.
-/
import Derived.Test.YthipjfnealbheaaGreatDoorEvD
import Derived.Attr
set_option linter.all false
open Bool renaming false_eq_true->wB,true_and->wC,not_true->wD
open Option renaming bind_some->wE
open BitVec renaming eq_of_toNat_eq->wF,ofInt_natCast->wG,toNat_ofNat->wH,toNat_ofInt->wJ,ofInt_mul->wK,ofInt_add->wL,toInt->wM
open Int renaming fdiv_eq_ediv_of_nonneg->wN,ofNat_lt->wO,ofNat_le->wP,ediv_eq_zero_of_lt->wQ,pow_pos->wR,natCast_emod->wS,le_of_lt->wT
open Nat renaming min_eq_right->wU,min_eq_left->wV,pow_le_pow_right->wW,add_one_sub_one->wX,mod_eq_of_lt->wY,div_eq_of_lt->wZ,le_total->w0
open List renaming all_cons->w1,take_length->w2
namespace Go.Ev
open Go
class Lq (p:Prop):Prop where
 t:True
instance {α :Type} {a b:α}:Lq (a=b):=⟨trivial⟩
instance {α :Type} [LE α] {a b:α}:Lq (a<=b):=⟨trivial⟩
instance {α :Type} [LT α] {a b:α}:Lq (a<b):=⟨trivial⟩
instance {a b:Prop}:Lq (a/\b):=⟨trivial⟩
instance {a b:Prop}:Lq (a\/b):=⟨trivial⟩
instance {a b:Prop}:Lq (a↔b):=⟨trivial⟩
theorem zq {p:Prop}[Lq p](h:p):p:=h
abbrev Its.o (d:Nat)(m:MOp)(r:Its):Its:=.op (some d) m r
abbrev Its.u (m:MOp)(r:Its):Its:=.op none m r
abbrev FO.o (d:Nat)(m:MOp):FO:=⟨some d,m,none⟩
abbrev FO.u (m:MOp):FO:=⟨none,m,none⟩
abbrev FO.w (d g:Nat)(b:Bool)(m:MOp):FO:=⟨some d,m,some (g,b)⟩
abbrev MOp.m (i:Nat):MOp:=.mov (.t i)
abbrev MOp.l (i:Nat):MOp:=.load false 1 (.t i)
abbrev MOp.L (n i:Nat):MOp:=.load true n (.t i)
abbrev MOp.a (i off x:Nat):MOp:=.faddr i off (.t x)
abbrev MOp.b (op:BinOp)(x y:Nat):MOp:=.bin op (.t x) (.t y)
abbrev MOp.S (n p x:Nat):MOp:=.store n (.t p) (.t x)
abbrev MOp.x (t i:Nat):MOp:=.extr (.t t) i
abbrev MOp.n (t:Nat):MOp:=.len false (.t t)
abbrev MOp.I (esz x i:Nat):MOp:=.iaddrS esz (.t x) (.t i)
abbrev MOp.q (a b:Nat):MOp:=.pick (.t a) (.t b) (.c (.bool false))
abbrev Opd.i (n:Int):Opd:=.c (.int .i64 n)
def seqK (gl:Gl)(cl:Cl)(b:MC):Option (Ex×St)->Option (Ex×St)
 | some (.norm,st)=>evC gl cl b st
 | r=>r
def zoc (id:Nat):Option (Ex×St)->Option (Ex×St)
 | some (e,st)=>some (if e= .exit id then .norm else e,st)
 | none=>none
def qkx (ks:List Kp):Option (Ex×St)->Option (Ex×St)
 | some (.norm,st)=>(zc2 ks st).map fun st=>(.norm,st)
 | r=>r
def qb3 :Option St->Option (Ex×St)
 | some st=>some (.norm,st)
 | none=>none
def itsK (gl:Gl)(cl:Cl)(d:Option Nat)(rest:Its)(st:St):Option (AV×Hp)->Option St
 | some (v,us)=>zbr gl cl rest (st.upd d v us)
 | none=>none
def iteK (gl:Gl)(cl:Cl)(lo hi d:Nat)(rest:Its)(st:St):Option AV->Option St
 | some x=>zbr gl cl rest {fr:=.set d x::.clr lo hi::st.fr,hp:=st.hp}
 | none=>none
def fnK (fd:Fd):Option (Ex×St)->Option (AV×Hp×List OB)
 | some (.norm,st)|some (.ret,st)=>(zg1 st fd.res fd.pk).map fun z=>(match z.1 with|[a]=>a|l=>.tup l,[],z.2)
 | _=>none
section
variable {gl :Gl} {cl:Cl} {st:St}
theorem z7u :evC gl cl .skip st=some (.norm,st):=rfl
theorem zt0 :evC gl cl .ret st=some (.ret,st):=rfl
theorem z7x {i:Nat}:evC gl cl (.exit i) st=some (.exit i,st):=rfl
theorem zfy {b:MC}:evC gl cl (.scope b) st=evC gl cl b st:=rfl
theorem ztz {a b:MC}:evC gl cl (.seq a b) st=seqK gl cl b (evC gl cl a st):=by
 rw[evC];rcases evC gl cl a st with _|⟨_|_|_,_⟩<;>rfl
theorem zzz {b:MC}:seqK gl cl b (some (.norm,st))=evC gl cl b st:=by rw[seqK]
theorem z42 {b:MC}:seqK gl cl b (some (.ret,st))=some (.ret,st):=rfl
theorem zz0 {b:MC}{i:Nat}:seqK gl cl b (some (.exit i,st))=some (.exit i,st):=rfl
theorem z3d {i:Nat}{b:MC}:evC gl cl (.block i b) st=zoc i (evC gl cl b st):=by
 rw[evC];rcases evC gl cl b st with _|⟨_,_⟩<;>rfl
theorem zue {i:Nat}:zoc i (some (.norm,st))=some (.norm,st):=rfl
theorem zy2 {i:Nat}:zoc i (some (.ret,st))=some (.ret,st):=rfl
theorem zuf {i j:Nat}:zoc i (some (.exit j,st))=some (if j=i then .norm else .exit j,st):=by simp[zoc]
theorem z7w {ks:List Kp}{b:MC}:evC gl cl (.kept ks b) st=qkx ks (evC gl cl b st):=by
 rw[evC];rcases evC gl cl b st with _|⟨_|_|_,_⟩<;>rfl
theorem zt1 {i:Its}:evC gl cl (.reg i) st=qb3 (zbr gl cl i st):=by rw[evC];cases zbr gl cl i st<;>rfl
theorem zjp :qb3 (some st)=some (.norm,st):=rfl
theorem z29 :zbr gl cl .nil st=some st:=rfl
theorem z7s {d:Option Nat}{m:MOp}{r:Its}:zbr gl cl (.op d m r) st=itsK gl cl d r st (zab gl cl st d m):=by
 rw[zbr];rcases zab gl cl st d m with _|⟨_,_⟩<;>rfl
theorem z1t {d:Option Nat}{r:Its}{v:AV}{us:Hp}:itsK gl cl d r st (some (v,us))=zbr gl cl r (st.upd d v us):=by rw[itsK]
end
def zb2 (gl:Gl)(cl:Cl):List FO->St->Option St
 | [],st=>some st
 | o::l,st =>
   match o.g with
   | none=>(zab gl cl st o.d o.m).bind fun r=>zb2 gl cl l (st.upd o.d r.1 r.2)
   | some (c,want) =>
     match st.fr.get c with
     | .bool t=>if t=want then(zab gl cl st o.d o.m).bind fun r=>zb2 gl cl l (st.upd o.d r.1 r.2)else zb2 gl cl l (st.upd o.d (.tup []) [])
     | .tup []=>zb2 gl cl l (st.upd o.d (.tup []) [])
     | _=>none
def znz (gl:Gl)(cl:Cl)(d:Option Nat)(l:List FO)(st:St):Option (AV×Hp)->Option St
 | some (v,us)=>zb2 gl cl l (st.upd d v us)
 | none=>none
section
variable {gl :Gl} {cl:Cl} {st:St}
theorem zn3 :∀{l:List FO} {st:St},(zbt gl cl l st).map (·.1)=zb2 gl cl l st
 | [],st=>rfl
 | o::l,st=>by
   have ih:=fun st=>zn3 (l:=l) (st:=st)
   obtain⟨d,m,g⟩:=o
   cases g with
   | none=>simp only[zbt,zb2];cases zab gl cl st d m<;>simp[<-ih,Function.comp_def]
   | some p =>
     obtain⟨c,want⟩:=p
     simp only[zbt,zb2]
     cases st.fr.get c with
     | bool t=>by_cases h:t=want<;>simp only[h,if_true,if_false]<;>first|(cases zab gl cl st d m<;>simp[<-ih,Function.comp_def];done)|simp[<-ih,Function.comp_def]
     | tup l=>cases l<;>simp[<-ih,Function.comp_def]
     | _=>rfl
theorem zmk {l:List FO}:evC gl cl (.draw l []) st=qb3 (zb2 gl cl l st):=by
 rw[evC,<-zn3];rcases zbt gl cl l st with _|⟨_,_⟩<;>rfl
theorem zib :zb2 gl cl [] st=some st:=rfl
theorem zjw {d:Option Nat}{m:MOp}{l:List FO}:zb2 gl cl (⟨d,m,none⟩::l) st=znz gl cl d l st (zab gl cl st d m):=by
 rw[zb2];rcases zab gl cl st d m with _|⟨_,_⟩<;>rfl
theorem zia {d:Option Nat}{l:List FO}{v:AV}{us:Hp}:znz gl cl d l st (some (v,us))=zb2 gl cl l (st.upd d v us):=by rw[znz]
end
theorem qdm {gl:Gl}{cl:Cl}{fd:Fd}{args:List AV}(hg:zmd fd.pk=false):evFn gl cl fd args []=fnK fd (evC gl cl fd.body {fr:=frOf 0 args,hp:=[]}):=by
 rw[evFn,hg];simp only[wB,if_false];rcases evC gl cl fd.body _ with _|⟨_|_|_,_⟩<;>rfl
theorem qd5 {gl:Gl}{tab:Nat->Option Fd}{n f:Nat}{args:List AV}{fd:Fd}(h:tab f=some fd)(hg:zmd fd.pk=false)(hv:fd.giv=none:=by rfl):call gl tab (n+1) f args []=fnK fd (evC gl (call gl tab n) fd.body {fr:=frOf 0 args,hp:=[]}):=by
 rw[call,h];simp only[wE,hv];exact qdm hg
theorem zei {gl:Gl}{tab:Nat->Option Fd}{n f:Nat}{args:List AV}{imps:Hp}{fd:Fd}{g}(h:tab f=some fd)(hv:fd.giv=some g:=by rfl):call gl tab (n+1) f args imps=g gl (call gl tab n) args imps:=by
 rw[call,h];simp only[wE,hv]
theorem zmb {f:St->Option (Ex×St)}{ks:List Kp}{n:Nat}{st st1 st2:St}(h:zc2 ks st=some st1)(hf:f st1=some (.norm,st2)):iter f ks (n+1) st=iter f ks n st2:=by
 rw[iter,h];simp[hf]
theorem zk3 {f:St->Option (Ex×St)}{ks:List Kp}{n:Nat}{st st1 st2:St}{e:Ex}(h:zc2 ks st=some st1)(hf:f st1=some (e,st2))(he:e≠.norm):iter f ks (n+1) st=some (e,st2):=by
 rw[iter,h];cases e<;>simp_all
theorem z6i {f:St->Option (Ex×St)}{ks:List Kp}(S:Nat->St)(N:Nat){st out:St}{e:Ex}(hN:N<LF)
  (h0:zc2 ks st=some (S 0)) (hs:∀i,i<N->∃st2,f (S i)=some (.norm,st2)/\zc2 ks st2=some (S (i+1))) (he:f (S N)=some (e,out)) (hne:e≠.norm) :
  iter f ks LF st=some (e,out):=by
 have key:∀(d i n:Nat) (st:St),i+d=N->d<n->zc2 ks st=some (S i)->iter f ks n st=some (e,out):=by
  intro d
  induction d with
  | zero =>
    intro i n st hi hn hc
    obtain⟨n,rfl⟩:∃m,n=m+1:=⟨n-1,by omega⟩
    have:i=N:=by omega
    subst this
    exact zk3 hc he hne
  | succ d ih =>
    intro i n st hi hn hc
    obtain⟨n,rfl⟩:∃m,n=m+1:=⟨n-1,by omega⟩
    obtain⟨st2,h1,h2⟩:=hs i (by omega)
    rw[zmb hc h1]
    exact ih (i+1) n st2 (by omega) (by omega) h2
 exact key N 0 LF st (by omega) hN h0
end Go.Ev
namespace Go.Ev
open Go
def finK (res:List ResD)(pk:List Pk):Option (Ex×St)->Option (AV×Hp×List OB)
 | some (.norm,st)|some (.ret,st)=>(zg1 st res pk).map fun z=>(match z.1 with|[a]=>a|l=>.tup l,[],z.2)
 | _=>none
theorem zaf {gl:Gl}{tab:Nat->Option Fd}{n f:Nat}{args:List AV}{fd:Fd}(h:tab f=some fd)(hg:zmd fd.pk=false:=by rfl)(hv:fd.giv=none:=by rfl):call gl tab (n+1) f args []=finK fd.res fd.pk (evC gl (call gl tab n) fd.body {fr:=frOf 0 args,hp:=[]}):=by
 rw[qd5 h hg hv];rcases evC gl (call gl tab n) fd.body _ with _|⟨_|_|_,_⟩<;>rfl
def resK :Option (List AV×List OB)->Option (AV×Hp×List OB)
 | some ([a],es)=>some (a,[],es)
 | some (l,es)=>some (.tup l,[],es)
 | none=>none
theorem z24 {res:List ResD}{pk:List Pk}{st:St}:finK res pk (some (.norm,st))=resK (zg1 st res pk):=by
 simp only[finK];rcases zg1 st res pk with _|⟨_|⟨a,_|⟨b,l⟩⟩,es⟩<;>rfl
theorem z68 {res:List ResD}{pk:List Pk}{st:St}:finK res pk (some (.ret,st))=resK (zg1 st res pk):=by
 simp only[finK];rcases zg1 st res pk with _|⟨_|⟨a,_|⟨b,l⟩⟩,es⟩<;>rfl
theorem z5j {a:AV}{es:List OB}:resK (some ([a],es))=some (a,[],es):=rfl
theorem z5k {es:List OB}:resK (some ([],es))=some (.tup [],[],es):=rfl
theorem z5i {a b:AV}{l:List AV}{es:List OB}:resK (some (a::b::l,es))=some (.tup (a::b::l),[],es):=rfl
def qdz (a:AV):Option (List AV)->Option (List AV)
 | some l=>some (a::l)
 | none=>none
def qbq (st:St)(rs:List ResD):Option AV->Option (List AV)
 | some a=>qdz a (zbf st rs)
 | none=>none
theorem zs7 {st:St}:zbf st []=some []:=rfl
theorem zqv {st:St}{r:ResD}{rs:List ResD}:zbf st (r::rs)=qbq st rs (zfd st r):=by
 rw[zbf];rcases zfd st r with _|a
 . rfl
 . simp only[wE,qbq];rcases zbf st rs with _|l<;>rfl
theorem zxa {st:St}{rs:List ResD}{a:AV}:qbq st rs (some a)=qdz a (zbf st rs):=rfl
theorem zyu {a:AV}{l:List AV}:qdz a (some l)=some (a::l):=rfl
def fstK :Option (AV×Hp)->Option AV
 | some q=>some q.1
 | none=>none
theorem z22 {a:AV}{us:Hp}:fstK (some (a,us))=some a:=rfl
theorem zs6 {st:St}{t:Nat}:zfd st (.tmp t)=some (st.fr.get t):=rfl
theorem zqu {st:St}{t n:Nat}{ag:Bool}:zfd st (.cell t ag n)=fstK (zab Gl.none (fun _ _ _=>none) st none (.load ag n (.t t))):=by
 rw[zfd];rcases zab _ _ st none _ with _|⟨a,b⟩<;>rfl
def z8z (st:St)(pks:List Pk):Option (List AV)->Option (List AV×List OB)
 | some rs=>if zgq (zd7 rs pks)then zec st.hp (zkq (zd7 rs pks)++st.hp) 0 rs pks else none
 | none=>none
theorem z5y {st:St}{res:List ResD}{pks:List Pk}:zg1 st res pks=z8z st pks (zbf st res):=by
 rw[zg1];rcases zbf st res with _|rs<;>rfl
theorem ztb {st:St}{pks:List Pk}{rs:List AV}:z8z st pks (some rs)=if zgq (zd7 rs pks)then zec st.hp (zkq (zd7 rs pks)++st.hp) 0 rs pks else none:=rfl
def prK (hp hp':Hp)(j:Nat)(rs:List AV)(pks:List Pk):Option (AV×List OB)->Option (List AV×List OB)
 | some (a,es)=>(zec hp hp' (j+es.length) rs pks).map fun z=>(a::z.1,es++z.2)
 | none=>none
theorem zxe {hp hp':Hp}{j:Nat}{pks:List Pk}:zec hp hp' j [] pks=some ([],[]):=by cases pks<;>rfl
theorem ztc {hp hp':Hp}{j:Nat}{r:AV}{rs:List AV}{pks:List Pk}:zec hp hp' j (r::rs) pks=prK hp hp' j rs pks.tail (ziv hp hp' j r (pks.headD .asis)):=by
 rw[zec];rcases ziv hp hp' j r (pks.headD .asis)with _|⟨a,es⟩<;>rfl
theorem z5u {hp hp':Hp}{j:Nat}{rs:List AV}{pks:List Pk}{a:AV}{es:List OB}:prK hp hp' j rs pks (some (a,es))=(zec hp hp' (j+es.length) rs pks).map fun z=>(a::z.1,es++z.2):=rfl
def qiw :Option AV->Option (AV×List OB)
 | some a=>if a.known then some (a,[])else none
 | none=>none
theorem zxf {hp hp':Hp}{j:Nat}{r:AV}:ziv hp hp' j r .asis=qiw (zau hp' 4 r):=by
 rw[ziv];rcases zau hp' 4 r with _|a<;>rfl
theorem zy6 {a:AV}:qiw (some a)=if a.known then some (a,[])else none:=rfl
end Go.Ev
namespace Go.Ev
open Go
theorem z7v {gl:Gl}{cl:Cl}{ks:List Kp}{b:MC}{st:St}:evC gl cl (.loop ks b) st=iter (evC gl cl b) ks LF st:=rfl
end Go.Ev
namespace Go.Ev
open Go
def zba (ks:List Kp):Option (Ex×St)->Option St
 | some (.norm,st)=>zc2 ks st
 | _=>none
theorem zys {ks:List Kp}{st:St}:zba ks (some (.norm,st))=zc2 ks st:=rfl
def isEx :Option (Ex×St)->Bool
 | some (.exit _,_)=>true
 | some (.ret,_)=>true
 | _=>false
theorem z10 {i:Nat}{st:St}:isEx (some (.exit i,st))=true:=rfl
theorem z6j {st:St}:isEx (some (.ret,st))=true:=rfl
theorem zaj {f:St->Option (Ex×St)}{ks:List Kp}(S:Nat->St)(N:Nat){st:St}(hN:N<LF)(h0:zc2 ks st=some (S 0))(hs:∀i,i<N->zba ks (f (S i))=some (S (i+1)))(he:isEx (f (S N))=true) :
  iter f ks LF st=f (S N):=by
 cases h:f (S N)with
 | none=>rw[h]at he;cases he
 | some r =>
   obtain⟨e,out⟩:=r
   refine z6i S N hN h0 (fun i hi=> ?_) h (by rw[h]at he;cases e<;>simp_all[isEx])
   have:=hs i hi
   unfold zba at this
   split at this
   . rename_i st2 h2;exact⟨st2,h2,this⟩
   . cases this
end Go.Ev
namespace Go.Ev
open Go
def qd0 (gl:Gl)(cl:Cl)(a b:MC)(st:St):AV->Option (Ex×St)
 | .bool true=>evC gl cl a st
 | .bool false=>evC gl cl b st
 | _=>none
theorem z3c {gl:Gl}{cl:Cl}{c:Opd}{a b:MC}{st:St}:evC gl cl (.cond c a b) st=qd0 gl cl a b st (c.val gl st.fr):=by
 rw[evC];cases c.val gl st.fr<;>first|rfl|(rename_i t;cases t<;>rfl)
theorem zyv {gl:Gl}{cl:Cl}{a b:MC}{st:St}:qd0 gl cl a b st (.bool true)=evC gl cl a st:=rfl
theorem zt5 {gl:Gl}{cl:Cl}{a b:MC}{st:St}:qd0 gl cl a b st (.bool false)=evC gl cl b st:=rfl
def zq5 (x:AV):Option AV:=if x.plain then some x else none
def iteC (gl:Gl)(a:Opd):Option St->Option AV
 | some st1=>zq5 (a.val gl st1.fr)
 | none=>none
def iteS (gl:Gl)(cl:Cl)(w t:Bool)(blk:Its)(a b:Opd)(st:St):Option AV :=
 if t=w then iteC gl (if w then a else b) (zbr gl cl blk st)else some ((if w then b else a).val gl st.fr)
def iteD (gl:Gl)(cl:Cl)(w:Bool)(blk:Its)(lo hi d:Nat)(a b:Opd)(rest:Its)(st:St):AV->Option St
 | .bool t=>iteK gl cl lo hi d rest st (iteS gl cl w t blk a b st)
 | _=>none
def zg6 (gl:Gl)(cl:Cl)(d:Option Nat)(m:MOp)(w:Bool)(l:List FO)(st:St):AV->Option St
 | .bool t=>if t=w then znz gl cl d l st (zab gl cl st d m)else zb2 gl cl l (st.upd d (.tup []) [])
 | .tup []=>zb2 gl cl l (st.upd d (.tup []) [])
 | _=>none
section
variable {gl :Gl} {cl:Cl} {st:St}
theorem z3a {c:Nat}{w:Bool}{blk:Its}{lo hi d:Nat}{a b:Opd}{rest:Its} :
  zbr gl cl (.ite c w blk lo hi d a b rest) st=iteD gl cl w blk lo hi d a b rest st (st.fr.get c):=by
 rw[zbr]
 cases st.fr.get c with
 | bool t =>
   simp only[iteD,iteS]
   split
   . cases w<;>(simp only[if_true,if_false,wB];cases zbr gl cl blk st with
      | none=>rfl
      | some st1=>simp only[wE,iteC,zq5];split<;>rfl)
   . rfl
 | _=>rfl
theorem z1y {t w:Bool}{blk:Its}{lo hi d:Nat}{a b:Opd}{rest:Its}:iteD gl cl w blk lo hi d a b rest st (.bool t)=iteK gl cl lo hi d rest st (iteS gl cl w t blk a b st):=rfl
theorem qcr {blk:Its}{a b:Opd}:iteS gl cl true true blk a b st=iteC gl a (zbr gl cl blk st):=rfl
theorem qcu {blk:Its}{a b:Opd}:iteS gl cl false false blk a b st=iteC gl b (zbr gl cl blk st):=rfl
theorem qcs {blk:Its}{a b:Opd}:iteS gl cl true false blk a b st=some (b.val gl st.fr):=rfl
theorem qct {blk:Its}{a b:Opd}:iteS gl cl false true blk a b st=some (a.val gl st.fr):=rfl
theorem z1z {a:Opd}{st1:St}:iteC gl a (some st1)=zq5 (a.val gl st1.fr):=rfl
theorem zta {b:Bool}:zq5 (.bool b)=some (.bool b):=rfl
theorem zxc {k:IntKind}{n:Int}:zq5 (.int k n)=some (.int k n):=rfl
theorem z1x {lo hi d:Nat}{rest:Its}{x:AV}:iteK gl cl lo hi d rest st (some x)=zbr gl cl rest {fr:=.set d x::.clr lo hi::st.fr,hp:=st.hp}:=rfl
theorem zpq {d:Option Nat}{m:MOp}{c:Nat}{w:Bool}{l:List FO}:zb2 gl cl (⟨d,m,some (c,w)⟩::l) st=zg6 gl cl d m w l st (st.fr.get c):=by
 rw[zb2]
 simp only
 generalize st.fr.get c=v
 cases v with
 | bool t =>
   simp only[zg6]
   by_cases h:t=w
   . simp only[h,if_true];rcases zab gl cl st d m with _|⟨_,_⟩<;>rfl
   . simp only[h,if_false]
 | tup l=>cases l<;>rfl
 | _=>rfl
theorem z2f {d:Option Nat}{m:MOp}{l:List FO}:zg6 gl cl d m true l st (.bool true)=znz gl cl d l st (zab gl cl st d m):=by rw[zg6,if_pos rfl]
theorem z2i {d:Option Nat}{m:MOp}{l:List FO}:zg6 gl cl d m false l st (.bool false)=znz gl cl d l st (zab gl cl st d m):=by rw[zg6,if_pos rfl]
theorem z2g {d:Option Nat}{m:MOp}{l:List FO}:zg6 gl cl d m true l st (.bool false)=zb2 gl cl l (st.upd d (.tup []) []):=by rw[zg6,if_neg (by decide)]
theorem z2h {d:Option Nat}{m:MOp}{l:List FO}:zg6 gl cl d m false l st (.bool true)=zb2 gl cl l (st.upd d (.tup []) []):=by rw[zg6,if_neg (by decide)]
end
end Go.Ev
namespace Go.Ev
open Go
def mapG :Option (List AV×Hp×List OB)->Option (AV×Hp×List OB)
 | some (l,hp,es)=>some (zo6 l,hp,es)
 | none=>none
def genK (st:St)(hk:List Nat):Option (List AV)->Option (AV×Hp×List OB)
 | some rs=>mapG (zfn st hk rs (zcu st hk rs))
 | none=>none
def finG (res:List ResD)(hk:List Nat):Option (Ex×St)->Option (AV×Hp×List OB)
 | some (.norm,st)|some (.ret,st)=>genK st hk (zbf st res)
 | _=>none
theorem za5 {gl:Gl}{tab:Nat->Option Fd}{n f:Nat}{args:List AV}{imps:Hp}{fd:Fd}(h:tab f=some fd)(hg:zmd fd.pk=true:=by rfl)(hm:mcLt fd.body=true:=by rfl)(hv:fd.giv=none:=by rfl) :
  call gl tab (n+1) f args imps=finG fd.res (zcp imps) (evC gl (call gl tab n) fd.body {fr:=frOf 0 args,hp:=imps}):=by
 have key:∀st:St,((zbf st fd.res).bind fun rs=>(zfn st (zcp imps) rs (zcu st (zcp imps) rs)).map fun z=>(zo6 z.1,z.2.1,z.2.2))=genK st (zcp imps) (zbf st fd.res):=fun st=>by
  rcases zbf st fd.res with _|rs
  . rfl
  . simp only[wE,genK]
    rcases zfn st (zcp imps) rs (zcu st (zcp imps) rs)with _|⟨_,_,_⟩<;>rfl
 rw[call,h]
 simp only[wE,hv,evFn,hg,hm,if_true,wD,wB,if_false]
 rcases evC gl (call gl tab n) fd.body _ with _|⟨_|_|_,st⟩
 . rfl
 . exact key st
 . rfl
 . exact key st
theorem z25 {res:List ResD}{hk:List Nat}{st:St}:finG res hk (some (.norm,st))=genK st hk (zbf st res):=rfl
theorem z69 {res:List ResD}{hk:List Nat}{st:St}:finG res hk (some (.ret,st))=genK st hk (zbf st res):=rfl
theorem z21 {st:St}{hk:List Nat}{rs:List AV}:genK st hk (some rs)=mapG (zfn st hk rs (zcu st hk rs)):=rfl
theorem z1c {l:List AV}{hp:Hp}{es:List OB}:mapG (some (l,hp,es))=some (zo6 l,hp,es):=rfl
end Go.Ev
namespace Go.Ev
open Go
theorem zn7 (w:Nat)(a:Int):a%(2^w:Int)=((BitVec.ofInt w a).toNat:Int):=by
 rw[wJ]
 have h:(0:Int)<2^w:=wR (by omega)
 have h1:=Int.emod_nonneg a (Int.ne_of_gt h)
 have e:((2^w:Nat):Int)=(2:Int)^w:=by simp
 rw[e]
 exact(Int.toNat_of_nonneg h1).symm
theorem zd3 {w:Nat}(x:BitVec w):BitVec.ofInt w (x.toNat:Int)=x:=by simp
theorem znd (w:Nat)(a b:Int):BitVec.ofInt w (a-b)=BitVec.ofInt w a-BitVec.ofInt w b:=by
 rw[Int.sub_eq_add_neg,wL,BitVec.ofInt_neg,BitVec.sub_eq_add_neg]
theorem zkn {k:IntKind}(hs:k.signed=false)(a:Int):k.wrap a=((BitVec.ofInt k.bits a).toNat:Int):=by
 rw[<-zn7];simp[IntKind.wrap,hs]
section
variable {k :IntKind} (hs:k.signed=false)
include hs
theorem andU (a b:Int):zam .and k a b=some (.int k ((BitVec.ofInt k.bits a&&&BitVec.ofInt k.bits b).toNat:Int)):=by
 simp only[zam,zkn hs,zd3]
theorem orU (a b:Int):zam .or k a b=some (.int k ((BitVec.ofInt k.bits a|||BitVec.ofInt k.bits b).toNat:Int)):=by
 simp only[zam,zkn hs,zd3]
theorem xorU (a b:Int):zam .xor k a b=some (.int k ((BitVec.ofInt k.bits a^^^BitVec.ofInt k.bits b).toNat:Int)):=by
 simp only[zam,zkn hs,zd3]
theorem addU (a b:Int):zam .add k a b=some (.int k ((BitVec.ofInt k.bits a+BitVec.ofInt k.bits b).toNat:Int)):=by
 simp only[zam,zkn hs,wL]
theorem subU (a b:Int):zam .sub k a b=some (.int k ((BitVec.ofInt k.bits a-BitVec.ofInt k.bits b).toNat:Int)):=by
 simp only[zam,zkn hs,znd]
theorem mulU (a b:Int):zam .mul k a b=some (.int k ((BitVec.ofInt k.bits a*BitVec.ofInt k.bits b).toNat:Int)):=by
 simp only[zam,zkn hs,wK]
theorem shlU (a b:Int)(h:0<=b):zb1 .shl k a b=some (.int k ((BitVec.ofInt k.bits a<<<b.toNat).toNat:Int)):=by
 have h':¬b<0:=by omega
 simp only[zb1,h',if_false,zkn hs]
 have e:BitVec.ofInt k.bits (a*2^min b.toNat k.bits)=BitVec.ofInt k.bits a<<<b.toNat:=by
  rw[wK]
  rcases Nat.lt_or_ge b.toNat k.bits with hb|hb
  . rw[wV (Nat.le_of_lt hb)]
    have:BitVec.ofInt k.bits (2^b.toNat)=BitVec.twoPow k.bits b.toNat:=by
     rw[show(2:Int)^b.toNat=((2^b.toNat:Nat):Int) by simp,wG,BitVec.twoPow_eq]
     apply wF
     simp[Nat.shiftLeft_eq]
    rw[this,BitVec.mul_twoPow_eq_shiftLeft]
  . rw[wU hb,BitVec.shiftLeft_eq_zero hb]
    have:BitVec.ofInt k.bits (2^k.bits)=0#k.bits:=by
     rw[show(2:Int)^k.bits=((2^k.bits:Nat):Int) by simp,wG]
     apply wF
     simp
    rw[this,BitVec.mul_zero]
 rw[e]
omit hs in
theorem shrU {k:IntKind}(x:BitVec k.bits)(b:Int)(h:0<=b):zb1 .shr k (x.toNat:Int) b=some (.int k ((x>>>b.toNat).toNat:Int)):=by
 have h':¬b<0:=by omega
 simp only[zb1,h',if_false]
 have e:((x.toNat:Int)).fdiv (2^min b.toNat k.bits)=((x>>>b.toNat).toNat:Int):=by
  rw[BitVec.toNat_ushiftRight,Nat.shiftRight_eq_div_pow,wN _ (wT (wR (by omega)))]
  rw[show(2:Int)^min b.toNat k.bits=((2^min b.toNat k.bits:Nat):Int) by simp,<-Int.natCast_ediv]
  congr 1
  rcases w0 b.toNat k.bits with hb|hb
  . rw[wV hb]
  . rw[wU hb,wZ x.isLt,wZ (Nat.lt_of_lt_of_le x.isLt (wW (by omega) hb))]
 rw[e]
theorem notU (a:Int):k.wrap ((BitVec.ofInt k.bits (if k.signed then -1 else k.max)^^^BitVec.ofInt k.bits a).toNat)=((~~~ BitVec.ofInt k.bits a).toNat:Int):=by
 rw[zkn hs,zd3]
 congr 2
 have:BitVec.ofInt k.bits (if k.signed then -1 else k.max)=BitVec.allOnes k.bits:=by
  rw[hs]
  simp only[wB,if_false,IntKind.max,hs]
  rw[znd,show(2:Int)^k.bits=((2^k.bits:Nat):Int) by simp,wG]
  have:BitVec.ofNat k.bits (2^k.bits)=0#k.bits:=by apply wF;simp
  rw[this,BitVec.zero_sub,<-BitVec.neg_one_eq_allOnes]
  rfl
 rw[this,BitVec.allOnes_xor]
end
theorem z94 (a:Int):IntKind.wrap .u8 a=((BitVec.ofInt 8 a).toNat:Int):=zkn rfl a
theorem qix (a b:Int):zam .and .u8 a b=some (.int .u8 ((BitVec.ofInt 8 a&&&BitVec.ofInt 8 b).toNat:Int)):=andU rfl a b
theorem qjo (a b:Int):zam .or .u8 a b=some (.int .u8 ((BitVec.ofInt 8 a|||BitVec.ofInt 8 b).toNat:Int)):=orU rfl a b
theorem qew (a b:Int):zam .xor .u8 a b=some (.int .u8 ((BitVec.ofInt 8 a^^^BitVec.ofInt 8 b).toNat:Int)):=xorU rfl a b
theorem qiz (a b:Int):zam .add .u8 a b=some (.int .u8 ((BitVec.ofInt 8 a+BitVec.ofInt 8 b).toNat:Int)):=addU rfl a b
theorem qfa (a b:Int):zam .sub .u8 a b=some (.int .u8 ((BitVec.ofInt 8 a-BitVec.ofInt 8 b).toNat:Int)):=subU rfl a b
theorem qgr (a b:Int):zam .mul .u8 a b=some (.int .u8 ((BitVec.ofInt 8 a*BitVec.ofInt 8 b).toNat:Int)):=mulU rfl a b
theorem qfr (a b:Int)(h:0<=b):zb1 .shl .u8 a b=some (.int .u8 ((BitVec.ofInt 8 a<<<b.toNat).toNat:Int)):=shlU rfl a b h
theorem qfq (x:BitVec 8)(b:Int)(h:0<=b):zb1 .shr .u8 (x.toNat:Int) b=some (.int .u8 ((x>>>b.toNat).toNat:Int)):=shrU (k:=.u8) x b h
theorem qgn (a:Int):IntKind.wrap .u8 ((BitVec.ofInt (IntKind.bits .u8) (if IntKind.signed .u8 then -1 else IntKind.max .u8)^^^BitVec.ofInt (IntKind.bits .u8) a).toNat)=((~~~ BitVec.ofInt 8 a).toNat:Int):=notU rfl a
theorem z4k (a:Int):IntKind.wrap .u16 a=((BitVec.ofInt 16 a).toNat:Int):=zkn rfl a
theorem qej (a b:Int):zam .and .u16 a b=some (.int .u16 ((BitVec.ofInt 16 a&&&BitVec.ofInt 16 b).toNat:Int)):=andU rfl a b
theorem qgc (a b:Int):zam .or .u16 a b=some (.int .u16 ((BitVec.ofInt 16 a|||BitVec.ofInt 16 b).toNat:Int)):=orU rfl a b
theorem z92 (a b:Int):zam .xor .u16 a b=some (.int .u16 ((BitVec.ofInt 16 a^^^BitVec.ofInt 16 b).toNat:Int)):=xorU rfl a b
theorem qen (a b:Int):zam .add .u16 a b=some (.int .u16 ((BitVec.ofInt 16 a+BitVec.ofInt 16 b).toNat:Int)):=addU rfl a b
theorem qak (a b:Int):zam .sub .u16 a b=some (.int .u16 ((BitVec.ofInt 16 a-BitVec.ofInt 16 b).toNat:Int)):=subU rfl a b
theorem qb9 (a b:Int):zam .mul .u16 a b=some (.int .u16 ((BitVec.ofInt 16 a*BitVec.ofInt 16 b).toNat:Int)):=mulU rfl a b
theorem qa8 (a b:Int)(h:0<=b):zb1 .shl .u16 a b=some (.int .u16 ((BitVec.ofInt 16 a<<<b.toNat).toNat:Int)):=shlU rfl a b h
theorem qa4 (x:BitVec 16)(b:Int)(h:0<=b):zb1 .shr .u16 (x.toNat:Int) b=some (.int .u16 ((x>>>b.toNat).toNat:Int)):=shrU (k:=.u16) x b h
theorem qb2 (a:Int):IntKind.wrap .u16 ((BitVec.ofInt (IntKind.bits .u16) (if IntKind.signed .u16 then -1 else IntKind.max .u16)^^^BitVec.ofInt (IntKind.bits .u16) a).toNat)=((~~~ BitVec.ofInt 16 a).toNat:Int):=notU rfl a
theorem z4j (a:Int):IntKind.wrap .u32 a=((BitVec.ofInt 32 a).toNat:Int):=zkn rfl a
theorem qei (a b:Int):zam .and .u32 a b=some (.int .u32 ((BitVec.ofInt 32 a&&&BitVec.ofInt 32 b).toNat:Int)):=andU rfl a b
theorem qgb (a b:Int):zam .or .u32 a b=some (.int .u32 ((BitVec.ofInt 32 a|||BitVec.ofInt 32 b).toNat:Int)):=orU rfl a b
theorem z91 (a b:Int):zam .xor .u32 a b=some (.int .u32 ((BitVec.ofInt 32 a^^^BitVec.ofInt 32 b).toNat:Int)):=xorU rfl a b
theorem qem (a b:Int):zam .add .u32 a b=some (.int .u32 ((BitVec.ofInt 32 a+BitVec.ofInt 32 b).toNat:Int)):=addU rfl a b
theorem qaj (a b:Int):zam .sub .u32 a b=some (.int .u32 ((BitVec.ofInt 32 a-BitVec.ofInt 32 b).toNat:Int)):=subU rfl a b
theorem qb8 (a b:Int):zam .mul .u32 a b=some (.int .u32 ((BitVec.ofInt 32 a*BitVec.ofInt 32 b).toNat:Int)):=mulU rfl a b
theorem qa7 (a b:Int)(h:0<=b):zb1 .shl .u32 a b=some (.int .u32 ((BitVec.ofInt 32 a<<<b.toNat).toNat:Int)):=shlU rfl a b h
theorem qa3 (x:BitVec 32)(b:Int)(h:0<=b):zb1 .shr .u32 (x.toNat:Int) b=some (.int .u32 ((x>>>b.toNat).toNat:Int)):=shrU (k:=.u32) x b h
theorem qb1 (a:Int):IntKind.wrap .u32 ((BitVec.ofInt (IntKind.bits .u32) (if IntKind.signed .u32 then -1 else IntKind.max .u32)^^^BitVec.ofInt (IntKind.bits .u32) a).toNat)=((~~~ BitVec.ofInt 32 a).toNat:Int):=notU rfl a
theorem zoj (a:Int):IntKind.wrap .u64 a=((BitVec.ofInt 64 a).toNat:Int):=zkn rfl a
theorem qeh (a b:Int):zam .and .u64 a b=some (.int .u64 ((BitVec.ofInt 64 a&&&BitVec.ofInt 64 b).toNat:Int)):=andU rfl a b
theorem qga (a b:Int):zam .or .u64 a b=some (.int .u64 ((BitVec.ofInt 64 a|||BitVec.ofInt 64 b).toNat:Int)):=orU rfl a b
theorem z90 (a b:Int):zam .xor .u64 a b=some (.int .u64 ((BitVec.ofInt 64 a^^^BitVec.ofInt 64 b).toNat:Int)):=xorU rfl a b
theorem qel (a b:Int):zam .add .u64 a b=some (.int .u64 ((BitVec.ofInt 64 a+BitVec.ofInt 64 b).toNat:Int)):=addU rfl a b
theorem qai (a b:Int):zam .sub .u64 a b=some (.int .u64 ((BitVec.ofInt 64 a-BitVec.ofInt 64 b).toNat:Int)):=subU rfl a b
theorem qb7 (a b:Int):zam .mul .u64 a b=some (.int .u64 ((BitVec.ofInt 64 a*BitVec.ofInt 64 b).toNat:Int)):=mulU rfl a b
theorem qa6 (a b:Int)(h:0<=b):zb1 .shl .u64 a b=some (.int .u64 ((BitVec.ofInt 64 a<<<b.toNat).toNat:Int)):=shlU rfl a b h
theorem qa2 (x:BitVec 64)(b:Int)(h:0<=b):zb1 .shr .u64 (x.toNat:Int) b=some (.int .u64 ((x>>>b.toNat).toNat:Int)):=shrU (k:=.u64) x b h
theorem qb0 (a:Int):IntKind.wrap .u64 ((BitVec.ofInt (IntKind.bits .u64) (if IntKind.signed .u64 then -1 else IntKind.max .u64)^^^BitVec.ofInt (IntKind.bits .u64) a).toNat)=((~~~ BitVec.ofInt 64 a).toNat:Int):=notU rfl a
theorem zaw {a:Int}(h1:-9223372036854775808<=a)(h2:a<=9223372036854775807):IntKind.wrap .i64 a=a:=by
 simp only[IntKind.wrap,IntKind.bits,IntKind.signed,wC]
 simp only[wX,Int.reducePow]
 split<;>simp_all<;>omega
theorem zf4 (x:BitVec 64):IntKind.wrap .i64 (x.toNat:Int)=x.toInt:=by
 simp only[IntKind.wrap,IntKind.bits,IntKind.signed,wC,wM]
 have:=x.isLt
 simp only[wX,Int.reducePow]
 split<;>simp_all<;>omega
theorem zfe {w:Nat}(hw:w<=64)(x:BitVec 64):BitVec.ofInt w x.toInt=x.setWidth w:=by
 apply wF
 rw[BitVec.toNat_setWidth,wJ,wM]
 have hd:((2:Nat)^w) ∣ 2^64:=Nat.pow_dvd_pow 2 hw
 obtain⟨c,hc⟩:=hd
 have e:((2^64:Nat):Int)=((2^w:Nat):Int)*(c:Int):=by rw[hc];exact Int.natCast_mul _ _
 split
 . rw[<-wS];rfl
 . rw[e,Int.sub_mul_emod_self_left,<-wS];rfl
theorem sw8 (x:BitVec 64):BitVec.ofInt 8 x.toInt=x.setWidth 8:=zfe (by omega) x
theorem sw16 (x:BitVec 64):BitVec.ofInt 16 x.toInt=x.setWidth 16:=zfe (by omega) x
theorem sw32 (x:BitVec 64):BitVec.ofInt 32 x.toInt=x.setWidth 32:=zfe (by omega) x
theorem sw64 (x:BitVec 64):BitVec.ofInt 64 x.toInt=x:=BitVec.ofInt_toInt
theorem qek (a b:Int):zam .and .i64 a b=some (.int .i64 (BitVec.ofInt 64 a&&&BitVec.ofInt 64 b).toInt):=by
 simp only[zam];rw[show IntKind.bits .i64=64 from rfl,zf4]
theorem qgd (a b:Int):zam .or .i64 a b=some (.int .i64 (BitVec.ofInt 64 a|||BitVec.ofInt 64 b).toInt):=by
 simp only[zam];rw[show IntKind.bits .i64=64 from rfl,zf4]
theorem zhz (a:Int):IntKind.wrap .i64 a=(BitVec.ofInt 64 a).toInt:=by
 rw[<-zf4,<-zn7]
 simp only[IntKind.wrap,IntKind.bits,Int.emod_emod]
 rfl
theorem qa5 (x:BitVec 64)(b:Int)(h:0<=b):zb1 .shr .i64 x.toInt b=some (.int .i64 (x.sshiftRight b.toNat).toInt):=by
 have h':¬b<0:=by omega
 simp only[zb1,h',if_false,BitVec.toInt_sshiftRight,IntKind.bits]
 congr 2
 rw[Int.shiftRight_eq_div_pow,wN _ (wT (wR (by omega)))]
 rcases w0 b.toNat 64 with hb|hb
 . rw[wV hb];simp
 . rw[wU hb]
   have h1:=x.toInt_lt
   have h2:=x.le_toInt
   have h3:(2:Nat)^64<=2^b.toNat:=wW (by omega) hb
   have h4:((2:Nat)^b.toNat:Int)=(2:Int)^b.toNat:=by simp
   by_cases hx:0<=x.toInt
   . rw[wQ hx (by omega),wQ hx (by omega)]
   . have e1:x.toInt/(2:Int)^64=-1:=by omega
     have e2:x.toInt/(((2:Nat)^b.toNat:Nat):Int)=-1:=by
      apply Int.ediv_eq_neg_one_of_neg_of_le<;>omega
     rw[e1,e2]
theorem qg9 {n:Int}(h1:-9223372036854775808<=n)(h2:n<=9223372036854775807):∃x:BitVec 64,n=x.toInt :=
 ⟨BitVec.ofInt 64 n,by rw[<-zhz,zaw h1 h2]⟩
theorem qec (x:BitVec 64)(n:Nat)(h:n<2^64):((x.toNat:Int)==(n:Int))=(x==BitVec.ofNat 64 n):=by
 rw[Bool.eq_iff_iff,beq_iff_eq,beq_iff_eq,Int.natCast_inj]
 constructor
 . intro e;apply wF;rw[wH,wY h,e]
 . intro e;rw[e,wH,wY h]
theorem qed (x:BitVec 64):((x.toNat:Int)==1)=(x==1#64):=qec x 1 (by omega)
theorem zua (n m:Nat):((n:Int)<(no_index (OfNat.ofNat m:Int)))=(n<@OfNat.ofNat Nat m (instOfNatNat m)):=by
 apply propext;exact wO
theorem zub (n m:Nat):((n:Int)<=(no_index (OfNat.ofNat m:Int)))=(n<=@OfNat.ofNat Nat m (instOfNatNat m)):=by
 apply propext;exact wP
theorem ztk (n m:Nat):((no_index (OfNat.ofNat m:Int))<(n:Int))=(@OfNat.ofNat Nat m (instOfNatNat m)<n):=by
 apply propext;exact wO
theorem ztl (n m:Nat):((no_index (OfNat.ofNat m:Int))<=(n:Int))=(@OfNat.ofNat Nat m (instOfNatNat m)<=n):=by
 apply propext;exact wP
theorem qiu (k:IntKind)(a b:Int):zam .eql k a b=some (.bool (a==b)):=rfl
theorem qip (k:IntKind)(a b:Int):zam .neq k a b=some (.bool (a != b)):=rfl
theorem qiq (k:IntKind)(a b:Int):zam .lss k a b=some (.bool (a<b)):=rfl
theorem qir (k:IntKind)(a b:Int):zam .leq k a b=some (.bool (a<=b)):=rfl
theorem qis (k:IntKind)(a b:Int):zam .gtr k a b=some (.bool (a>b)):=rfl
theorem qit (k:IntKind)(a b:Int):zam .geq k a b=some (.bool (a>=b)):=rfl
theorem z8k (a b:Int):zam .add .i64 a b=some (.int .i64 (IntKind.wrap .i64 (a+b))):=rfl
theorem z8i (a b:Int):zam .sub .i64 a b=some (.int .i64 (IntKind.wrap .i64 (a-b))):=rfl
theorem z8j (a b:Int):zam .mul .i64 a b=some (.int .i64 (IntKind.wrap .i64 (a*b))):=rfl
theorem qik (a b:List UInt8):zjd .eql a b=some (.bool (a==b)):=rfl
theorem qij (a b:List UInt8):zjd .neq a b=some (.bool (!(a==b))):=rfl
theorem qim {a b:List UInt8}(h:a.length+b.length<=LIM):zjd .add a b=some (.str (a++b)):=by simp[zjd,h]
theorem zae (l:List UInt8):(zac l).length=l.length:=by simp[zac]
theorem zkj (l:List UInt8):(zac l).take l.length=zac l:=by rw[<-zae,w2]
theorem zie {l:List UInt8}{i:Nat}(h:i<l.length):(zac l)[i]? =some (.int .u8 (l[i].toBitVec.toNat:Int)):=by
 rw[zac,List.getElem?_map,List.getElem?_eq_getElem h];rfl
theorem zha :∀(l:List UInt8),zhb (zac l)=some l
 | []=>rfl
 | b::l=>by
   have e:zac (b::l)= .int .u8 b.toNat::zac l:=rfl
   rw[e,zhb,byteOf,zha l]
   simp
end Go.Ev
namespace Go.Ev
open Go
theorem z0r {hp hp':Hp}{j k n:Nat}{sh:Sh}:ziv hp hp' j (.sl k [] 0 n) (.own sh)=(match hp.get k with
  | some (.grow sh' els)=>if Sh.beq sh sh'&&decide (n=els.length)then some (.sl (20000+j) [] 0 n,[.grow sh els])else none
  | _=>none):=rfl
theorem zwy {k:IntKind}{n:Int}:(AV.int k n).scalar=true:=rfl
theorem zss {b:Bool}:(AV.bool b).scalar=true:=rfl
theorem zwv {b:List UInt8}:(AV.str b).scalar=true:=rfl
theorem zwx {b:Bool}{sh:Sh}{l:List AV}:(AV.lst b sh l).scalar=true:=rfl
theorem zz2 {k:Nat}{p:List Nat}{a b:Nat}:(AV.sl k p a b).scalar=true:=rfl
theorem zww {k:Nat}{p:List Nat}:(AV.ptr k p).scalar=true:=rfl
theorem zwz {l:List AV}:(AV.agg l).scalar=false:=rfl
section
variable {hp :Hp} {n:Nat}
theorem z1j {k:IntKind}{x:Int}:zau hp n (.int k x)=some (.int k x):=by cases n<;>rfl
theorem zxk {b:Bool}:zau hp n (.bool b)=some (.bool b):=by cases n<;>rfl
theorem z1g {b:List UInt8}:zau hp n (.str b)=some (.str b):=by cases n<;>rfl
theorem qcn {v:Value}:zau hp n (.s v)=some (.s v):=by cases n<;>rfl
theorem z1k {l:List AV}:zau hp n (.agg l)=some (.agg l):=by cases n<;>rfl
theorem z1i {b:Bool}{sh:Sh}{l:List AV}:zau hp n (.lst b sh l)=some (.lst b sh l):=by cases n<;>rfl
theorem z6g {sh:Sh}{a:AV}:zau hp n (.cp sh a)=some (.cp sh a):=by cases n<;>rfl
theorem z6e {k:Nat}{p:List Nat}{off len:Nat}:zau hp (n+1) (.sl k p off len)=(za4 hp (.sl k p off len)).map fun c=>.lst false c.1 c.2:=rfl
def ptrK (hp:Hp)(n:Nat):Option Sh->Option AV->Option AV
 | some s,some x=>(zau hp n x).bind fun y=>if y.plain then some (.cp s y)else none
 | _,_=>none
def ptrO (hp:Hp)(n:Nat)(p:List Nat):Option OB->Option AV
 | some (.fix sh b)=>ptrK hp n (sh.sub p) (b.nav p)
 | _=>none
theorem z1h {k:Nat}{p:List Nat}:zau hp (n+1) (.ptr k p)=ptrO hp n p (hp.get k):=by
 show(match hp.get k with|some (.fix sh b)=>_|_=>none)=_
 rcases hp.get k with _|_|_|_<;>first|rfl|(simp only[ptrO];rcases Sh.sub _ _ with _|_<;>rcases AV.nav _ _ with _|_<;>rfl)
def aggK :Option (List AV)->Option AV
 | some l=>if AV.plains l then some (.agg l)else none
 | none=>none
theorem zxl {l:List AV}:zau hp (n+1) (.aggR l)=aggK (mapO (zau hp n) l):=by
 show((mapO (zau hp n) l).bind fun l'=>if AV.plains l' then some (AV.agg l')else none)=_
 rcases mapO (zau hp n) l with _|_<;>rfl
theorem z6f {f:Nat}{l:List AV}:zau hp (n+1) (.fn f l)=(mapO (zau hp n) l).map (.fn f):=rfl
def qif :Option AV->Option (List AV)->Option (List AV)
 | some a,some l=>some (a::l)
 | _,_=>none
theorem z1b {f:AV->Option AV}{a:AV}{l:List AV}:mapO f (a::l)=qif (f a) (mapO f l):=by
 rw[mapO];rcases f a with _|_
 . rfl
 . rcases mapO f l with _|_<;>rfl
theorem zyt {a:AV}{l:List AV}:qif (some a) (some l)=some (a::l):=rfl
theorem z54 {f:AV->Option AV}:mapO f []=some []:=rfl
def retK (args:List AV)(hp:Hp)(d:Nat):Option (AV×Hp×List OB)->Option (AV×Hp)
 | some (r,[],[])=>if AV.plains args||zc5 r then some (r,[])else none
 | some (r,[],e::es)=>if AV.plains args||(zc5 r&&(e::es).all zff)then(zcc hp d 0 (e::es)).map fun us=>(rn d r,us)else none
 | _=>none
def qd6 (cl:Cl)(hp:Hp)(d f:Nat)(args:List AV):Option (List AV)->Option (AV×Hp)
 | some as=>retK args hp d (cl f as [])
 | none=>none
theorem z72 {cl:Cl}{d f:Nat}{args:List AV}:zc0 cl hp d f args .lend=qd6 cl hp d f args (mapO (zau hp 4) args):=by
 simp only[zc0]
 rcases mapO (zau hp 4) args with _|as
 . rfl
 . simp only[wE,qd6]
   rcases cl f as []with _|⟨r,_|⟨_,_⟩,_|⟨_,_⟩⟩<;>rfl
theorem zyx {cl:Cl}{d f:Nat}{args as:List AV}:qd6 cl hp d f args (some as)=retK args hp d (cl f as []):=rfl
theorem z5g {d:Nat}{args:List AV}{r:AV}:retK args hp d (some (r,[],[]))=if AV.plains args||zc5 r then some (r,[])else none:=rfl
theorem z5h {d:Nat}{args:List AV}{r:AV}{e:OB}{es:List OB}:retK args hp d (some (r,[],e::es))=if AV.plains args||(zc5 r&&(e::es).all zff)then(zcc hp d 0 (e::es)).map fun us=>(rn d r,us)else none:=rfl
end
attribute [go_sem] zwy zss zwv zwx zz2 zww zwz z0r zff
attribute [go_sem] z7u ztz zt1 zmk zt0 z7x z3d z7w zab Opd.val Fr.get St.upd Fr.upd Hp.get zao za8 AV.scalars AV.isAgg AV.kids Sh.sub Sh.agg AV.nav Sh.sizes Sh.size zgr z35 zjm AV.mk AV.plains AV.plain AV.setNav
attribute [go_sem] zxf zy6 z1j zxk z1g qcn z1k z1i z6g z6e z1h ptrO ptrK zxl aggK z6f z1b z54 zyt AV.known z1t zia z7s z29 zjw zib zjp zzz z42 zz0 zue zy2 zuf z24 z68 z5j z5k z5i zs7 zqv zxa zyu z22 zs6 zqu z5y ztb zxe ztc z5u frOf vals
attribute [go_sem] zd7 zkq zgq bnds za4 sub Sh.beq Sh.beqs
attribute [go_sem] Option.map_some Option.map_none wE List.map List.cons_append List.nil_append List.headD List.tail List.take ite_true ite_false if_true if_false List.getElem?_cons_zero List.getElem?_cons_succ List.set_cons_zero List.set_cons_succ List.length_cons List.length_nil and_self and_true true_and Option.isNone_none Option.isNone_some Bool.and_true wC Bool.and_self decide_true List.replicate List.drop List.isEmpty_nil List.isEmpty_cons
attribute [go_sem] wO wP Int.natCast_nonneg qfq qfr qix qjo qew qiz qfa qgr z94 qgn qa4 qa8 qej qgc z92 qen qak qb9 z4k qb2 qa3 qa7 qei qgb z91 qem qaj qb8 z4j qb1 qa2 qa6 qeh qga z90 qel qai qb7 zoj qb0 zd3 wG BitVec.ofNat_toNat BitVec.setWidth_eq
attribute [go_sem] z72 zyx z5g z5h zc5 zcy zff zcc rn rns zc2 mvKs keyL zr8 qfp rnMv rn1 rnFr rnHp sw Kp.keys Kp.owns Kp.ownSrc Kp.slotRefs zxn ztn AV.refs AV.refss List.append_nil List.contains_nil List.contains_cons List.all_nil w1 Bool.not_false wD Bool.or_true Bool.true_or Bool.or_false Bool.false_or
attribute [go_sem] zua zub ztk ztl ge_iff_le gt_iff_lt Nat.lt_irrefl Nat.le_refl Nat.zero_le Int.cast_ofNat_Int Int.natCast_zero Int.natCast_one decide_false decide_true qed zae zha sw8 sw16 sw32 sw64 zf4
attribute [go_sem] z3c zyv zt5 zys z10 z6j z7v
attribute [go_sem] Nat.zero_add Nat.add_zero Int.toNat_natCast
attribute [go_sem] z3a z1y qcr qcu qcs qct z1z zta zxc z1x zpq z2f z2i z2g z2h beq_self_eq_true
attribute [go_sem] zkj w2
attribute [go_sem] List.length_append eq_self
attribute [go_sem] qik qij qim qiu qip qiq qir qis qit z8k z8i z8j
theorem zyo {cl:Cl}{hp:Hp}{d f:Nat}{args:List AV}:zc0 cl hp d f args .imp=if f<RB then zbz cl hp d f args (zav hp (AV.refss args))else none:=by rw[zc0]
theorem ztr {hp hp':Hp}{d:Nat}{ks:List Nat}{r:AV}{es:List OB}:zvu hp d ks (some (r,hp',es))=if zbk hp' 0 ks.length then(layG hp ks d 0 es).map fun us=>(rA (dn ks d) r,zdp ks d hp'++us)else none:=rfl
def zjx (hp:Hp)(all:List Nat):List Nat->Bool
 | []=>true
 | k::l=>((hp.get k).isSome&&(zl2 (hp.get k)).all all.contains)&&zjx hp all l
def zl5 (hp:Hp)(all:List Nat):List Nat->List OB
 | []=>[]
 | k::l=>rOB (nm all) (getO hp k)::zl5 hp all l
def inL :List Nat->Bool
 | []=>true
 | k::l=>decide (SHK<=k)&&inL l
def outL :List Nat->Bool
 | []=>true
 | k::l=>decide (k<SHK)&&outL l
theorem zmp (hp:Hp)(all:List Nat):∀l:List Nat,zjx hp all l=l.all fun k=>(hp.get k).isSome&&(zl2 (hp.get k)).all all.contains
 | []=>rfl
 | k::l=>by rw[zjx,zmp hp all l,w1]
theorem zl4 (hp:Hp)(all:List Nat):∀l:List Nat,zl5 hp all l=l.map fun k=>rOB (nm all) (getO hp k)
 | []=>rfl
 | k::l=>by rw[zl5,zl4 hp all l,List.map_cons]
theorem z19 :∀l:List Nat,inL l=l.all fun k=>decide (SHK<=k)
 | []=>rfl
 | k::l=>by rw[inL,z19 l,w1]
theorem zu6 :∀l:List Nat,outL l=l.all fun k=>decide (k<SHK)
 | []=>rfl
 | k::l=>by rw[outL,zu6 l,w1]
theorem zr4 (hp:Hp)(ks:List Nat):zdl hp ks=zjx hp ks ks:=(zmp hp ks ks).symm
theorem qbw (st:St)(hk:List Nat)(rs:List AV)(E:List Nat):zfn st hk rs E =
  if zjx st.hp (hk++E) (hk++E)&&(AV.refss rs).all (hk++E).contains&&zgq (hk++E)&&inL hk&&outL E&&decide (E.length<1000)&&AV.knowns rs then
   some (rAs (nm E) rs,zeh st.hp E hk,zl5 st.hp E E)
  else none:=by
 rw[zfn,zr4,z19,zu6,zl4]
attribute [go_sem] zjx zl5 inL outL
attribute [go_sem] RB zyo ztr zbz zav zet zr4 zl2 zev getO idx up dn rA rAs rOB upHp zdp zbk layG SHK zwe ksA bigs z25 z69 z21 z1c qbw zcu qbo zcp zeh nm zo6 AV.knowns Option.getD_some List.getD_cons_zero List.getD_cons_succ Option.isSome_some Option.isSome_none
end Go.Ev
