/-
  For the evaluator's user: evaluation by simp, no lambda on the way. No condition.
-/
import Derived.Test.YtaloneiaejhopaaDoorEvD
import Derived.Attr
set_option linter.all false
open Bool renaming false_eq_true->wB,true_and->wC,not_true->wD
open Option renaming bind_some->wE
open BitVec renaming eq_of_toNat_eq->wF,ofInt_natCast->wG,toNat_ofNat->wH,toNat_ofInt->wJ,ofInt_mul->wK,ofInt_add->wL,toInt->wM
open Int renaming fdiv_eq_ediv_of_nonneg->wN,ofNat_lt->wO,ofNat_le->wP,ediv_eq_zero_of_lt->wQ,pow_pos->wR,natCast_emod->wS,le_of_lt->wT
open Nat renaming min_eq_right->wU,min_eq_left->wV,pow_le_pow_right->wW,add_one_sub_one->wX,mod_eq_of_lt->wY,div_eq_of_lt->wZ,le_total->w0
open List renaming all_cons->w1,take_length->w2
namespace Go.Ev
open Go
class Lq (p:Prop):Prop where
 t:True
instance {α :Type} {a b:α}:Lq (a=b):=⟨trivial⟩
instance {α :Type} [LE α] {a b:α}:Lq (a<=b):=⟨trivial⟩
instance {α :Type} [LT α] {a b:α}:Lq (a<b):=⟨trivial⟩
instance {a b:Prop}:Lq (a/\b):=⟨trivial⟩
instance {a b:Prop}:Lq (a\/b):=⟨trivial⟩
instance {a b:Prop}:Lq (a↔b):=⟨trivial⟩
theorem zq {p:Prop}[Lq p](h:p):p:=h
abbrev Its.o (d:Nat)(m:MOp)(r:Its):Its:=.op (some d) m r
abbrev Its.u (m:MOp)(r:Its):Its:=.op none m r
abbrev FO.o (d:Nat)(m:MOp):FO:=⟨some d,m,none⟩
abbrev FO.u (m:MOp):FO:=⟨none,m,none⟩
abbrev FO.w (d g:Nat)(b:Bool)(m:MOp):FO:=⟨some d,m,some (g,b)⟩
abbrev MOp.m (i:Nat):MOp:=.mov (.t i)
abbrev MOp.l (i:Nat):MOp:=.load false 1 (.t i)
abbrev MOp.L (n i:Nat):MOp:=.load true n (.t i)
abbrev MOp.a (i off x:Nat):MOp:=.faddr i off (.t x)
abbrev MOp.b (op:BinOp)(x y:Nat):MOp:=.bin op (.t x) (.t y)
abbrev MOp.S (n p x:Nat):MOp:=.store n (.t p) (.t x)
abbrev MOp.x (t i:Nat):MOp:=.extr (.t t) i
abbrev MOp.n (t:Nat):MOp:=.len false (.t t)
abbrev MOp.I (esz x i:Nat):MOp:=.iaddrS esz (.t x) (.t i)
abbrev MOp.q (a b:Nat):MOp:=.pick (.t a) (.t b) (.c (.bool false))
abbrev Opd.i (n:Int):Opd:=.c (.int .i64 n)
def seqK (gl:Gl)(cl:Cl)(b:MC):Option (Ex×St)->Option (Ex×St)
 | some (.norm,st)=>evC gl cl b st
 | r=>r
def ztk (id:Nat):Option (Ex×St)->Option (Ex×St)
 | some (e,st)=>some (if e= .exit id then .norm else e,st)
 | none=>none
def z7j (ks:List Kp):Option (Ex×St)->Option (Ex×St)
 | some (.norm,st)=>(zcr ks st).map fun st=>(.norm,st)
 | r=>r
def qcz :Option St->Option (Ex×St)
 | some st=>some (.norm,st)
 | none=>none
def itsK (gl:Gl)(cl:Cl)(d:Option Nat)(rest:Its)(st:St):Option (AV×Hp)->Option St
 | some (v,us)=>zbz gl cl rest (st.upd d v us)
 | none=>none
def iteK (gl:Gl)(cl:Cl)(lo hi d:Nat)(rest:Its)(st:St):Option AV->Option St
 | some x=>zbz gl cl rest {fr:=.set d x::.clr lo hi::st.fr,hp:=st.hp}
 | none=>none
def fnK (fd:Fd):Option (Ex×St)->Option (AV×Hp×List OB)
 | some (.norm,st)|some (.ret,st)=>(zg5 st fd.res fd.pk).map fun z=>(match z.1 with|[a]=>a|l=>.tup l,[],z.2)
 | _=>none
section
variable {gl :Gl} {cl:Cl} {st:St}
theorem z8k :evC gl cl .skip st=some (.norm,st):=rfl
theorem zu4 :evC gl cl .ret st=some (.ret,st):=rfl
theorem z8n {i:Nat}:evC gl cl (.exit i) st=some (.exit i,st):=rfl
theorem zu3 {a b:MC}:evC gl cl (.seq a b) st=seqK gl cl b (evC gl cl a st):=by
 rw[evC];rcases evC gl cl a st with _|⟨_|_|_,_⟩<;>rfl
theorem z0k {b:MC}:seqK gl cl b (some (.norm,st))=evC gl cl b st:=by rw[seqK]
theorem z53 {b:MC}:seqK gl cl b (some (.ret,st))=some (.ret,st):=rfl
theorem z0l {b:MC}{i:Nat}:seqK gl cl b (some (.exit i,st))=some (.exit i,st):=rfl
theorem z4c {i:Nat}{b:MC}:evC gl cl (.block i b) st=ztk i (evC gl cl b st):=by
 rw[evC];rcases evC gl cl b st with _|⟨_,_⟩<;>rfl
theorem zvi {i:Nat}:ztk i (some (.norm,st))=some (.norm,st):=rfl
theorem zzy {i:Nat}:ztk i (some (.ret,st))=some (.ret,st):=rfl
theorem zvj {i j:Nat}:ztk i (some (.exit j,st))=some (if j=i then .norm else .exit j,st):=by simp[ztk]
theorem z8m {ks:List Kp}{b:MC}:evC gl cl (.kept ks b) st=z7j ks (evC gl cl b st):=by
 rw[evC];rcases evC gl cl b st with _|⟨_|_|_,_⟩<;>rfl
theorem zn7 {ks:List Kp}{st':St}(h:zcr ks st=some st'):z7j ks (some (.norm,st))=some (.norm,st'):=by simp[z7j,h]
theorem zu5 {i:Its}:evC gl cl (.reg i) st=qcz (zbz gl cl i st):=by rw[evC];cases zbz gl cl i st<;>rfl
theorem zj5 :qcz (some st)=some (.norm,st):=rfl
theorem z38 :zbz gl cl .nil st=some st:=rfl
theorem z8i {d:Option Nat}{m:MOp}{r:Its}:zbz gl cl (.op d m r) st=itsK gl cl d r st (zaa gl cl st d m):=by
 rw[zbz];rcases zaa gl cl st d m with _|⟨_,_⟩<;>rfl
theorem z2n {d:Option Nat}{r:Its}{v:AV}{us:Hp}:itsK gl cl d r st (some (v,us))=zbz gl cl r (st.upd d v us):=by rw[itsK]
end
def zb5 (gl:Gl)(cl:Cl):List FO->St->Option St
 | [],st=>some st
 | o::l,st =>
   match o.g with
   | none=>(zaa gl cl st o.d o.m).bind fun r=>zb5 gl cl l (st.upd o.d r.1 r.2)
   | some (c,want) =>
     match st.fr.get c with
     | .bool t=>if t=want then(zaa gl cl st o.d o.m).bind fun r=>zb5 gl cl l (st.upd o.d r.1 r.2)else zb5 gl cl l (st.upd o.d (.tup []) [])
     | .tup []=>zb5 gl cl l (st.upd o.d (.tup []) [])
     | _=>none
def zok (gl:Gl)(cl:Cl)(d:Option Nat)(l:List FO)(st:St):Option (AV×Hp)->Option St
 | some (v,us)=>zb5 gl cl l (st.upd d v us)
 | none=>none
section
variable {gl :Gl} {cl:Cl} {st:St}
theorem zoo :∀{l:List FO} {st:St},(zb0 gl cl l st).map (·.1)=zb5 gl cl l st
 | [],st=>rfl
 | o::l,st=>by
   have ih:=fun st=>zoo (l:=l) (st:=st)
   obtain⟨d,m,g⟩:=o
   cases g with
   | none=>simp only[zb0,zb5];cases zaa gl cl st d m<;>simp[<-ih,Function.comp_def]
   | some p =>
     obtain⟨c,want⟩:=p
     simp only[zb0,zb5]
     cases st.fr.get c with
     | bool t=>by_cases h:t=want<;>simp only[h,if_true,if_false]<;>first|(cases zaa gl cl st d m<;>simp[<-ih,Function.comp_def];done)|simp[<-ih,Function.comp_def]
     | tup l=>cases l<;>simp[<-ih,Function.comp_def]
     | _=>rfl
theorem zm0 {l:List FO}:evC gl cl (.draw l []) st=qcz (zb5 gl cl l st):=by
 rw[evC,<-zoo];rcases zb0 gl cl l st with _|⟨_,_⟩<;>rfl
theorem zij :zb5 gl cl [] st=some st:=rfl
theorem zke {d:Option Nat}{m:MOp}{l:List FO}:zb5 gl cl (⟨d,m,none⟩::l) st=zok gl cl d l st (zaa gl cl st d m):=by
 rw[zb5];rcases zaa gl cl st d m with _|⟨_,_⟩<;>rfl
theorem zii {d:Option Nat}{l:List FO}{v:AV}{us:Hp}:zok gl cl d l st (some (v,us))=zb5 gl cl l (st.upd d v us):=by rw[zok]
end
theorem qec {gl:Gl}{cl:Cl}{fd:Fd}{args:List AV}(hg:zmq fd.pk=false):evFn gl cl fd args []=fnK fd (evC gl cl fd.body {fr:=frOf 0 args,hp:=[]}):=by
 rw[evFn,hg];simp only[wB,if_false];rcases evC gl cl fd.body _ with _|⟨_|_|_,_⟩<;>rfl
theorem qet {gl:Gl}{tab:Nat->Option Fd}{n f:Nat}{args:List AV}{fd:Fd}(h:tab f=some fd)(hg:zmq fd.pk=false)(hv:fd.giv=none:=by rfl):call gl tab (n+1) f args []=fnK fd (evC gl (call gl tab n) fd.body {fr:=frOf 0 args,hp:=[]}):=by
 rw[call,h];simp only[wE,hv];exact qec hg
theorem zd4 {gl:Gl}{tab:Nat->Option Fd}{n f:Nat}{args:List AV}{imps:Hp}{fd:Fd}{g}(h:tab f=some fd)(hv:fd.giv=some g:=by rfl):call gl tab (n+1) f args imps=g gl (call gl tab n) args imps:=by
 rw[call,h];simp only[wE,hv]
theorem zje {f:St->Option (Ex×St)}{ks:List Kp}{n:Nat}{st st1 st2:St}(h:zcr ks st=some st1)(hf:f st1=some (.norm,st2)):iter f ks (n+1) st=iter f ks n st2:=by
 rw[iter,h];simp[hf]
theorem zhx {f:St->Option (Ex×St)}{ks:List Kp}{n:Nat}{st st1 st2:St}{e:Ex}(h:zcr ks st=some st1)(hf:f st1=some (e,st2))(he:e≠.norm):iter f ks (n+1) st=some (e,st2):=by
 rw[iter,h];cases e<;>simp_all
theorem z7m {f:St->Option (Ex×St)}{ks:List Kp}(S:Nat->St)(N:Nat){st out:St}{e:Ex}(hN:N<LF)
  (h0:zcr ks st=some (S 0)) (hs:∀i,i<N->∃st2,f (S i)=some (.norm,st2)/\zcr ks st2=some (S (i+1))) (he:f (S N)=some (e,out)) (hne:e≠.norm) :
  iter f ks LF st=some (e,out):=by
 have key:∀(d i n:Nat) (st:St),i+d=N->d<n->zcr ks st=some (S i)->iter f ks n st=some (e,out):=by
  intro d
  induction d with
  | zero =>
    intro i n st hi hn hc
    obtain⟨n,rfl⟩:∃m,n=m+1:=⟨n-1,by omega⟩
    have:i=N:=by omega
    subst this
    exact zhx hc he hne
  | succ d ih =>
    intro i n st hi hn hc
    obtain⟨n,rfl⟩:∃m,n=m+1:=⟨n-1,by omega⟩
    obtain⟨st2,h1,h2⟩:=hs i (by omega)
    rw[zje hc h1]
    exact ih (i+1) n st2 (by omega) (by omega) h2
 exact key N 0 LF st (by omega) hN h0
end Go.Ev
namespace Go.Ev
open Go
def finK (res:List ResD)(pk:List Pk):Option (Ex×St)->Option (AV×Hp×List OB)
 | some (.norm,st)|some (.ret,st)=>(zg5 st res pk).map fun z=>(match z.1 with|[a]=>a|l=>.tup l,[],z.2)
 | _=>none
theorem zai {gl:Gl}{tab:Nat->Option Fd}{n f:Nat}{args:List AV}{fd:Fd}(h:tab f=some fd)(hg:zmq fd.pk=false:=by rfl)(hv:fd.giv=none:=by rfl):call gl tab (n+1) f args []=finK fd.res fd.pk (evC gl (call gl tab n) fd.body {fr:=frOf 0 args,hp:=[]}):=by
 rw[qet h hg hv];rcases evC gl (call gl tab n) fd.body _ with _|⟨_|_|_,_⟩<;>rfl
def resK :Option (List AV×List OB)->Option (AV×Hp×List OB)
 | some ([a],es)=>some (a,[],es)
 | some (l,es)=>some (.tup l,[],es)
 | none=>none
theorem z32 {res:List ResD}{pk:List Pk}{st:St}:finK res pk (some (.norm,st))=resK (zg5 st res pk):=by
 simp only[finK];rcases zg5 st res pk with _|⟨_|⟨a,_|⟨b,l⟩⟩,es⟩<;>rfl
theorem z8c {res:List ResD}{pk:List Pk}{st:St}:finK res pk (some (.ret,st))=resK (zg5 st res pk):=by
 simp only[finK];rcases zg5 st res pk with _|⟨_|⟨a,_|⟨b,l⟩⟩,es⟩<;>rfl
theorem z6n {a:AV}{es:List OB}:resK (some ([a],es))=some (a,[],es):=rfl
theorem z6o {es:List OB}:resK (some ([],es))=some (.tup [],[],es):=rfl
theorem z6m {a b:AV}{l:List AV}{es:List OB}:resK (some (a::b::l,es))=some (.tup (a::b::l),[],es):=rfl
def qeo (a:AV):Option (List AV)->Option (List AV)
 | some l=>some (a::l)
 | none=>none
def qck (st:St)(rs:List ResD):Option AV->Option (List AV)
 | some a=>qeo a (zbi st rs)
 | none=>none
theorem zue {st:St}:zbi st []=some []:=rfl
theorem zry {st:St}{r:ResD}{rs:List ResD}:zbi st (r::rs)=qck st rs (zfi st r):=by
 rw[zbi];rcases zfi st r with _|a
 . rfl
 . simp only[wE,qck];rcases zbi st rs with _|l<;>rfl
theorem zx8 {st:St}{rs:List ResD}{a:AV}:qck st rs (some a)=qeo a (zbi st rs):=rfl
theorem zzr {a:AV}{l:List AV}:qeo a (some l)=some (a::l):=rfl
def fstK :Option (AV×Hp)->Option AV
 | some q=>some q.1
 | none=>none
theorem z3z {a:AV}{us:Hp}:fstK (some (a,us))=some a:=rfl
theorem zud {st:St}{t:Nat}:zfi st (.tmp t)=some (st.fr.get t):=rfl
theorem zrx {st:St}{t n:Nat}{ag:Bool}:zfi st (.cell t ag n)=fstK (zaa Gl.none (fun _ _ _=>none) st none (.load ag n (.t t))):=by
 rw[zfi];rcases zaa _ _ st none _ with _|⟨a,b⟩<;>rfl
def z9w (st:St)(pks:List Pk):Option (List AV)->Option (List AV×List OB)
 | some rs=>if ze4 (zef rs pks)then zem st.hp (zla (zef rs pks)++st.hp) 0 rs pks else none
 | none=>none
theorem z65 {st:St}{res:List ResD}{pks:List Pk}:zg5 st res pks=z9w st pks (zbi st res):=by
 rw[zg5];rcases zbi st res with _|rs<;>rfl
theorem zuh {st:St}{pks:List Pk}{rs:List AV}:z9w st pks (some rs)=if ze4 (zef rs pks)then zem st.hp (zla (zef rs pks)++st.hp) 0 rs pks else none:=rfl
def prK (hp hp':Hp)(j:Nat)(rs:List AV)(pks:List Pk):Option (AV×List OB)->Option (List AV×List OB)
 | some (a,es)=>(zem hp hp' (j+es.length) rs pks).map fun z=>(a::z.1,es++z.2)
 | none=>none
theorem zyd {hp hp':Hp}{j:Nat}{pks:List Pk}:zem hp hp' j [] pks=some ([],[]):=by cases pks<;>rfl
theorem zui {hp hp':Hp}{j:Nat}{r:AV}{rs:List AV}{pks:List Pk}:zem hp hp' j (r::rs) pks=prK hp hp' j rs pks.tail (zi6 hp hp' j r (pks.headD .asis)):=by
 rw[zem];rcases zi6 hp hp' j r (pks.headD .asis)with _|⟨a,es⟩<;>rfl
theorem z61 {hp hp':Hp}{j:Nat}{rs:List AV}{pks:List Pk}{a:AV}{es:List OB}:prK hp hp' j rs pks (some (a,es))=(zem hp hp' (j+es.length) rs pks).map fun z=>(a::z.1,es++z.2):=rfl
def qj2 :Option AV->Option (AV×List OB)
 | some a=>if a.known then some (a,[])else none
 | none=>none
theorem zye {hp hp':Hp}{j:Nat}{r:AV}:zi6 hp hp' j r .asis=qj2 (zay hp' 4 r):=by
 rw[zi6];rcases zay hp' 4 r with _|a<;>rfl
theorem zz3 {a:AV}:qj2 (some a)=if a.known then some (a,[])else none:=rfl
end Go.Ev
namespace Go.Ev
open Go
theorem z8l {gl:Gl}{cl:Cl}{ks:List Kp}{b:MC}{st:St}:evC gl cl (.loop ks b) st=iter (evC gl cl b) ks LF st:=rfl
end Go.Ev
namespace Go.Ev
open Go
def zaz (ks:List Kp):Option (Ex×St)->Option St
 | some (.norm,st)=>zcr ks st
 | _=>none
theorem zex {ks:List Kp}{st:St}:zaz ks (some (.norm,st))=zcr ks st:=rfl
def isEx :Option (Ex×St)->Bool
 | some (.exit _,_)=>true
 | some (.ret,_)=>true
 | _=>false
theorem z2t {i:Nat}{st:St}:isEx (some (.exit i,st))=true:=rfl
theorem z7n {st:St}:isEx (some (.ret,st))=true:=rfl
theorem zak {f:St->Option (Ex×St)}{ks:List Kp}(S:Nat->St)(N:Nat){st:St}(hN:N<LF)(h0:zcr ks st=some (S 0))(hs:∀i,i<N->zaz ks (f (S i))=some (S (i+1)))(he:isEx (f (S N))=true) :
  iter f ks LF st=f (S N):=by
 cases h:f (S N)with
 | none=>rw[h]at he;cases he
 | some r =>
   obtain⟨e,out⟩:=r
   refine z7m S N hN h0 (fun i hi=> ?_) h (by rw[h]at he;cases e<;>simp_all[isEx])
   have:=hs i hi
   unfold zaz at this
   split at this
   . rename_i st2 h2;exact⟨st2,h2,this⟩
   . cases this
end Go.Ev
namespace Go.Ev
open Go
def qep (gl:Gl)(cl:Cl)(a b:MC)(st:St):AV->Option (Ex×St)
 | .bool true=>evC gl cl a st
 | .bool false=>evC gl cl b st
 | _=>none
theorem z4b {gl:Gl}{cl:Cl}{c:Opd}{a b:MC}{st:St}:evC gl cl (.cond c a b) st=qep gl cl a b st (c.val gl st.fr):=by
 rw[evC];cases c.val gl st.fr<;>first|rfl|(rename_i t;cases t<;>rfl)
theorem zzs {gl:Gl}{cl:Cl}{a b:MC}{st:St}:qep gl cl a b st (.bool true)=evC gl cl a st:=rfl
theorem zva {gl:Gl}{cl:Cl}{a b:MC}{st:St}:qep gl cl a b st (.bool false)=evC gl cl b st:=rfl
def zr8 (x:AV):Option AV:=if x.plain then some x else none
def iteC (gl:Gl)(a:Opd):Option St->Option AV
 | some st1=>zr8 (a.val gl st1.fr)
 | none=>none
def iteS (gl:Gl)(cl:Cl)(w t:Bool)(blk:Its)(a b:Opd)(st:St):Option AV :=
 if t=w then iteC gl (if w then a else b) (zbz gl cl blk st)else some ((if w then b else a).val gl st.fr)
def iteD (gl:Gl)(cl:Cl)(w:Bool)(blk:Its)(lo hi d:Nat)(a b:Opd)(rest:Its)(st:St):AV->Option St
 | .bool t=>iteK gl cl lo hi d rest st (iteS gl cl w t blk a b st)
 | _=>none
def zhb (gl:Gl)(cl:Cl)(d:Option Nat)(m:MOp)(w:Bool)(l:List FO)(st:St):AV->Option St
 | .bool t=>if t=w then zok gl cl d l st (zaa gl cl st d m)else zb5 gl cl l (st.upd d (.tup []) [])
 | .tup []=>zb5 gl cl l (st.upd d (.tup []) [])
 | _=>none
section
variable {gl :Gl} {cl:Cl} {st:St}
theorem z39 {c:Nat}{w:Bool}{blk:Its}{lo hi d:Nat}{a b:Opd}{rest:Its} :
  zbz gl cl (.ite c w blk lo hi d a b rest) st=iteD gl cl w blk lo hi d a b rest st (st.fr.get c):=by
 rw[zbz]
 cases st.fr.get c with
 | bool t =>
   simp only[iteD,iteS]
   split
   . cases w<;>(simp only[if_true,if_false,wB];cases zbz gl cl blk st with
      | none=>rfl
      | some st1=>simp only[wE,iteC,zr8];split<;>rfl)
   . rfl
 | _=>rfl
theorem z2r {t w:Bool}{blk:Its}{lo hi d:Nat}{a b:Opd}{rest:Its}:iteD gl cl w blk lo hi d a b rest st (.bool t)=iteK gl cl lo hi d rest st (iteS gl cl w t blk a b st):=rfl
theorem qdg {blk:Its}{a b:Opd}:iteS gl cl true true blk a b st=iteC gl a (zbz gl cl blk st):=rfl
theorem qdj {blk:Its}{a b:Opd}:iteS gl cl false false blk a b st=iteC gl b (zbz gl cl blk st):=rfl
theorem qdh {blk:Its}{a b:Opd}:iteS gl cl true false blk a b st=some (b.val gl st.fr):=rfl
theorem qdi {blk:Its}{a b:Opd}:iteS gl cl false true blk a b st=some (a.val gl st.fr):=rfl
theorem z2s {a:Opd}{st1:St}:iteC gl a (some st1)=zr8 (a.val gl st1.fr):=rfl
theorem zug {b:Bool}:zr8 (.bool b)=some (.bool b):=rfl
theorem zyb {k:IntKind}{n:Int}:zr8 (.int k n)=some (.int k n):=rfl
theorem z2q {lo hi d:Nat}{rest:Its}{x:AV}:iteK gl cl lo hi d rest st (some x)=zbz gl cl rest {fr:=.set d x::.clr lo hi::st.fr,hp:=st.hp}:=rfl
theorem zqs {d:Option Nat}{m:MOp}{c:Nat}{w:Bool}{l:List FO}:zb5 gl cl (⟨d,m,some (c,w)⟩::l) st=zhb gl cl d m w l st (st.fr.get c):=by
 rw[zb5]
 simp only
 generalize st.fr.get c=v
 cases v with
 | bool t =>
   simp only[zhb]
   by_cases h:t=w
   . simp only[h,if_true];rcases zaa gl cl st d m with _|⟨_,_⟩<;>rfl
   . simp only[h,if_false]
 | tup l=>cases l<;>rfl
 | _=>rfl
theorem z28 {d:Option Nat}{m:MOp}{l:List FO}:zhb gl cl d m true l st (.bool true)=zok gl cl d l st (zaa gl cl st d m):=by rw[zhb,if_pos rfl]
theorem z3b {d:Option Nat}{m:MOp}{l:List FO}:zhb gl cl d m false l st (.bool false)=zok gl cl d l st (zaa gl cl st d m):=by rw[zhb,if_pos rfl]
theorem z29 {d:Option Nat}{m:MOp}{l:List FO}:zhb gl cl d m true l st (.bool false)=zb5 gl cl l (st.upd d (.tup []) []):=by rw[zhb,if_neg (by decide)]
theorem z3a {d:Option Nat}{m:MOp}{l:List FO}:zhb gl cl d m false l st (.bool true)=zb5 gl cl l (st.upd d (.tup []) []):=by rw[zhb,if_neg (by decide)]
end
end Go.Ev
namespace Go.Ev
open Go
def mapG :Option (List AV×Hp×List OB)->Option (AV×Hp×List OB)
 | some (l,hp,es)=>some (zp2 l,hp,es)
 | none=>none
def genK (st:St)(hk:List Nat):Option (List AV)->Option (AV×Hp×List OB)
 | some rs=>mapG (zft st hk rs (zcy st hk rs))
 | none=>none
def finG (res:List ResD)(hk:List Nat):Option (Ex×St)->Option (AV×Hp×List OB)
 | some (.norm,st)|some (.ret,st)=>genK st hk (zbi st res)
 | _=>none
theorem zbo {gl:Gl}{tab:Nat->Option Fd}{n f:Nat}{args:List AV}{imps:Hp}{fd:Fd}(h:tab f=some fd)(hg:zmq fd.pk=true:=by rfl)(hm:mcLt fd.body=true:=by rfl)(hv:fd.giv=none:=by rfl) :
  call gl tab (n+1) f args imps=finG fd.res (zcq imps) (evC gl (call gl tab n) fd.body {fr:=frOf 0 args,hp:=imps}):=by
 have key:∀st:St,((zbi st fd.res).bind fun rs=>(zft st (zcq imps) rs (zcy st (zcq imps) rs)).map fun z=>(zp2 z.1,z.2.1,z.2.2))=genK st (zcq imps) (zbi st fd.res):=fun st=>by
  rcases zbi st fd.res with _|rs
  . rfl
  . simp only[wE,genK]
    rcases zft st (zcq imps) rs (zcy st (zcq imps) rs)with _|⟨_,_,_⟩<;>rfl
 rw[call,h]
 simp only[wE,hv,evFn,hg,hm,if_true,wD,wB,if_false]
 rcases evC gl (call gl tab n) fd.body _ with _|⟨_|_|_,st⟩
 . rfl
 . exact key st
 . rfl
 . exact key st
theorem z33 {res:List ResD}{hk:List Nat}{st:St}:finG res hk (some (.norm,st))=genK st hk (zbi st res):=rfl
theorem z8d {res:List ResD}{hk:List Nat}{st:St}:finG res hk (some (.ret,st))=genK st hk (zbi st res):=rfl
theorem z3y {st:St}{hk:List Nat}{rs:List AV}:genK st hk (some rs)=mapG (zft st hk rs (zcy st hk rs)):=rfl
theorem z18 {l:List AV}{hp:Hp}{es:List OB}:mapG (some (l,hp,es))=some (zp2 l,hp,es):=rfl
end Go.Ev
namespace Go.Ev
open Go
theorem zos (w:Nat)(a:Int):a%(2^w:Int)=((BitVec.ofInt w a).toNat:Int):=by
 rw[wJ]
 have h:(0:Int)<2^w:=wR (by omega)
 have h1:=Int.emod_nonneg a (Int.ne_of_gt h)
 have e:((2^w:Nat):Int)=(2:Int)^w:=by simp
 rw[e]
 exact(Int.toNat_of_nonneg h1).symm
theorem zd7 {w:Nat}(x:BitVec w):BitVec.ofInt w (x.toNat:Int)=x:=by simp
theorem znx (w:Nat)(a b:Int):BitVec.ofInt w (a-b)=BitVec.ofInt w a-BitVec.ofInt w b:=by
 rw[Int.sub_eq_add_neg,wL,BitVec.ofInt_neg,BitVec.sub_eq_add_neg]
theorem zk7 {k:IntKind}(hs:k.signed=false)(a:Int):k.wrap a=((BitVec.ofInt k.bits a).toNat:Int):=by
 rw[<-zos];simp[IntKind.wrap,hs]
section
variable {k :IntKind} (hs:k.signed=false)
include hs
theorem andU (a b:Int):zar .and k a b=some (.int k ((BitVec.ofInt k.bits a&&&BitVec.ofInt k.bits b).toNat:Int)):=by
 simp only[zar,zk7 hs,zd7]
theorem orU (a b:Int):zar .or k a b=some (.int k ((BitVec.ofInt k.bits a|||BitVec.ofInt k.bits b).toNat:Int)):=by
 simp only[zar,zk7 hs,zd7]
theorem xorU (a b:Int):zar .xor k a b=some (.int k ((BitVec.ofInt k.bits a^^^BitVec.ofInt k.bits b).toNat:Int)):=by
 simp only[zar,zk7 hs,zd7]
theorem addU (a b:Int):zar .add k a b=some (.int k ((BitVec.ofInt k.bits a+BitVec.ofInt k.bits b).toNat:Int)):=by
 simp only[zar,zk7 hs,wL]
theorem subU (a b:Int):zar .sub k a b=some (.int k ((BitVec.ofInt k.bits a-BitVec.ofInt k.bits b).toNat:Int)):=by
 simp only[zar,zk7 hs,znx]
theorem mulU (a b:Int):zar .mul k a b=some (.int k ((BitVec.ofInt k.bits a*BitVec.ofInt k.bits b).toNat:Int)):=by
 simp only[zar,zk7 hs,wK]
theorem shlU (a b:Int)(h:0<=b):zbw .shl k a b=some (.int k ((BitVec.ofInt k.bits a<<<b.toNat).toNat:Int)):=by
 have h':¬b<0:=by omega
 simp only[zbw,h',if_false,zk7 hs]
 have e:BitVec.ofInt k.bits (a*2^min b.toNat k.bits)=BitVec.ofInt k.bits a<<<b.toNat:=by
  rw[wK]
  rcases Nat.lt_or_ge b.toNat k.bits with hb|hb
  . rw[wV (Nat.le_of_lt hb)]
    have:BitVec.ofInt k.bits (2^b.toNat)=BitVec.twoPow k.bits b.toNat:=by
     rw[show(2:Int)^b.toNat=((2^b.toNat:Nat):Int) by simp,wG,BitVec.twoPow_eq]
     apply wF
     simp[Nat.shiftLeft_eq]
    rw[this,BitVec.mul_twoPow_eq_shiftLeft]
  . rw[wU hb,BitVec.shiftLeft_eq_zero hb]
    have:BitVec.ofInt k.bits (2^k.bits)=0#k.bits:=by
     rw[show(2:Int)^k.bits=((2^k.bits:Nat):Int) by simp,wG]
     apply wF
     simp
    rw[this,BitVec.mul_zero]
 rw[e]
omit hs in
theorem shrU {k:IntKind}(x:BitVec k.bits)(b:Int)(h:0<=b):zbw .shr k (x.toNat:Int) b=some (.int k ((x>>>b.toNat).toNat:Int)):=by
 have h':¬b<0:=by omega
 simp only[zbw,h',if_false]
 have e:((x.toNat:Int)).fdiv (2^min b.toNat k.bits)=((x>>>b.toNat).toNat:Int):=by
  rw[BitVec.toNat_ushiftRight,Nat.shiftRight_eq_div_pow,wN _ (wT (wR (by omega)))]
  rw[show(2:Int)^min b.toNat k.bits=((2^min b.toNat k.bits:Nat):Int) by simp,<-Int.natCast_ediv]
  congr 1
  rcases w0 b.toNat k.bits with hb|hb
  . rw[wV hb]
  . rw[wU hb,wZ x.isLt,wZ (Nat.lt_of_lt_of_le x.isLt (wW (by omega) hb))]
 rw[e]
theorem notU (a:Int):k.wrap ((BitVec.ofInt k.bits (if k.signed then -1 else k.max)^^^BitVec.ofInt k.bits a).toNat)=((~~~ BitVec.ofInt k.bits a).toNat:Int):=by
 rw[zk7 hs,zd7]
 congr 2
 have:BitVec.ofInt k.bits (if k.signed then -1 else k.max)=BitVec.allOnes k.bits:=by
  rw[hs]
  simp only[wB,if_false,IntKind.max,hs]
  rw[znx,show(2:Int)^k.bits=((2^k.bits:Nat):Int) by simp,wG]
  have:BitVec.ofNat k.bits (2^k.bits)=0#k.bits:=by apply wF;simp
  rw[this,BitVec.zero_sub,<-BitVec.neg_one_eq_allOnes]
  rfl
 rw[this,BitVec.allOnes_xor]
end
theorem qat (a:Int):IntKind.wrap .u8 a=((BitVec.ofInt 8 a).toNat:Int):=zk7 rfl a
theorem qj6 (a b:Int):zar .and .u8 a b=some (.int .u8 ((BitVec.ofInt 8 a&&&BitVec.ofInt 8 b).toNat:Int)):=andU rfl a b
theorem qku (a b:Int):zar .or .u8 a b=some (.int .u8 ((BitVec.ofInt 8 a|||BitVec.ofInt 8 b).toNat:Int)):=orU rfl a b
theorem qfh (a b:Int):zar .xor .u8 a b=some (.int .u8 ((BitVec.ofInt 8 a^^^BitVec.ofInt 8 b).toNat:Int)):=xorU rfl a b
theorem qj7 (a b:Int):zar .add .u8 a b=some (.int .u8 ((BitVec.ofInt 8 a+BitVec.ofInt 8 b).toNat:Int)):=addU rfl a b
theorem qfx (a b:Int):zar .sub .u8 a b=some (.int .u8 ((BitVec.ofInt 8 a-BitVec.ofInt 8 b).toNat:Int)):=subU rfl a b
theorem qhw (a b:Int):zar .mul .u8 a b=some (.int .u8 ((BitVec.ofInt 8 a*BitVec.ofInt 8 b).toNat:Int)):=mulU rfl a b
theorem qgz (a b:Int)(h:0<=b):zbw .shl .u8 a b=some (.int .u8 ((BitVec.ofInt 8 a<<<b.toNat).toNat:Int)):=shlU rfl a b h
theorem qgy (x:BitVec 8)(b:Int)(h:0<=b):zbw .shr .u8 (x.toNat:Int) b=some (.int .u8 ((x>>>b.toNat).toNat:Int)):=shrU (k:=.u8) x b h
theorem qhp (a:Int):IntKind.wrap .u8 ((BitVec.ofInt (IntKind.bits .u8) (if IntKind.signed .u8 then -1 else IntKind.max .u8)^^^BitVec.ofInt (IntKind.bits .u8) a).toNat)=((~~~ BitVec.ofInt 8 a).toNat:Int):=notU rfl a
theorem z5s (a:Int):IntKind.wrap .u16 a=((BitVec.ofInt 16 a).toNat:Int):=zk7 rfl a
theorem qe6 (a b:Int):zar .and .u16 a b=some (.int .u16 ((BitVec.ofInt 16 a&&&BitVec.ofInt 16 b).toNat:Int)):=andU rfl a b
theorem qhk (a b:Int):zar .or .u16 a b=some (.int .u16 ((BitVec.ofInt 16 a|||BitVec.ofInt 16 b).toNat:Int)):=orU rfl a b
theorem qas (a b:Int):zar .xor .u16 a b=some (.int .u16 ((BitVec.ofInt 16 a^^^BitVec.ofInt 16 b).toNat:Int)):=xorU rfl a b
theorem qfb (a b:Int):zar .add .u16 a b=some (.int .u16 ((BitVec.ofInt 16 a+BitVec.ofInt 16 b).toNat:Int)):=addU rfl a b
theorem qa6 (a b:Int):zar .sub .u16 a b=some (.int .u16 ((BitVec.ofInt 16 a-BitVec.ofInt 16 b).toNat:Int)):=subU rfl a b
theorem qc3 (a b:Int):zar .mul .u16 a b=some (.int .u16 ((BitVec.ofInt 16 a*BitVec.ofInt 16 b).toNat:Int)):=mulU rfl a b
theorem qb4 (a b:Int)(h:0<=b):zbw .shl .u16 a b=some (.int .u16 ((BitVec.ofInt 16 a<<<b.toNat).toNat:Int)):=shlU rfl a b h
theorem qb0 (x:BitVec 16)(b:Int)(h:0<=b):zbw .shr .u16 (x.toNat:Int) b=some (.int .u16 ((x>>>b.toNat).toNat:Int)):=shrU (k:=.u16) x b h
theorem qcy (a:Int):IntKind.wrap .u16 ((BitVec.ofInt (IntKind.bits .u16) (if IntKind.signed .u16 then -1 else IntKind.max .u16)^^^BitVec.ofInt (IntKind.bits .u16) a).toNat)=((~~~ BitVec.ofInt 16 a).toNat:Int):=notU rfl a
theorem z5r (a:Int):IntKind.wrap .u32 a=((BitVec.ofInt 32 a).toNat:Int):=zk7 rfl a
theorem qe5 (a b:Int):zar .and .u32 a b=some (.int .u32 ((BitVec.ofInt 32 a&&&BitVec.ofInt 32 b).toNat:Int)):=andU rfl a b
theorem qhj (a b:Int):zar .or .u32 a b=some (.int .u32 ((BitVec.ofInt 32 a|||BitVec.ofInt 32 b).toNat:Int)):=orU rfl a b
theorem qar (a b:Int):zar .xor .u32 a b=some (.int .u32 ((BitVec.ofInt 32 a^^^BitVec.ofInt 32 b).toNat:Int)):=xorU rfl a b
theorem qfa (a b:Int):zar .add .u32 a b=some (.int .u32 ((BitVec.ofInt 32 a+BitVec.ofInt 32 b).toNat:Int)):=addU rfl a b
theorem qa5 (a b:Int):zar .sub .u32 a b=some (.int .u32 ((BitVec.ofInt 32 a-BitVec.ofInt 32 b).toNat:Int)):=subU rfl a b
theorem qc2 (a b:Int):zar .mul .u32 a b=some (.int .u32 ((BitVec.ofInt 32 a*BitVec.ofInt 32 b).toNat:Int)):=mulU rfl a b
theorem qb3 (a b:Int)(h:0<=b):zbw .shl .u32 a b=some (.int .u32 ((BitVec.ofInt 32 a<<<b.toNat).toNat:Int)):=shlU rfl a b h
theorem qbz (x:BitVec 32)(b:Int)(h:0<=b):zbw .shr .u32 (x.toNat:Int) b=some (.int .u32 ((x>>>b.toNat).toNat:Int)):=shrU (k:=.u32) x b h
theorem qcx (a:Int):IntKind.wrap .u32 ((BitVec.ofInt (IntKind.bits .u32) (if IntKind.signed .u32 then -1 else IntKind.max .u32)^^^BitVec.ofInt (IntKind.bits .u32) a).toNat)=((~~~ BitVec.ofInt 32 a).toNat:Int):=notU rfl a
theorem z5q (a:Int):IntKind.wrap .u64 a=((BitVec.ofInt 64 a).toNat:Int):=zk7 rfl a
theorem qe4 (a b:Int):zar .and .u64 a b=some (.int .u64 ((BitVec.ofInt 64 a&&&BitVec.ofInt 64 b).toNat:Int)):=andU rfl a b
theorem qhi (a b:Int):zar .or .u64 a b=some (.int .u64 ((BitVec.ofInt 64 a|||BitVec.ofInt 64 b).toNat:Int)):=orU rfl a b
theorem qaq (a b:Int):zar .xor .u64 a b=some (.int .u64 ((BitVec.ofInt 64 a^^^BitVec.ofInt 64 b).toNat:Int)):=xorU rfl a b
theorem qe9 (a b:Int):zar .add .u64 a b=some (.int .u64 ((BitVec.ofInt 64 a+BitVec.ofInt 64 b).toNat:Int)):=addU rfl a b
theorem qa4 (a b:Int):zar .sub .u64 a b=some (.int .u64 ((BitVec.ofInt 64 a-BitVec.ofInt 64 b).toNat:Int)):=subU rfl a b
theorem qc1 (a b:Int):zar .mul .u64 a b=some (.int .u64 ((BitVec.ofInt 64 a*BitVec.ofInt 64 b).toNat:Int)):=mulU rfl a b
theorem qb2 (a b:Int)(h:0<=b):zbw .shl .u64 a b=some (.int .u64 ((BitVec.ofInt 64 a<<<b.toNat).toNat:Int)):=shlU rfl a b h
theorem qby (x:BitVec 64)(b:Int)(h:0<=b):zbw .shr .u64 (x.toNat:Int) b=some (.int .u64 ((x>>>b.toNat).toNat:Int)):=shrU (k:=.u64) x b h
theorem qcw (a:Int):IntKind.wrap .u64 ((BitVec.ofInt (IntKind.bits .u64) (if IntKind.signed .u64 then -1 else IntKind.max .u64)^^^BitVec.ofInt (IntKind.bits .u64) a).toNat)=((~~~ BitVec.ofInt 64 a).toNat:Int):=notU rfl a
theorem zbf {a:Int}(h1:-9223372036854775808<=a)(h2:a<=9223372036854775807):IntKind.wrap .i64 a=a:=by
 simp only[IntKind.wrap,IntKind.bits,IntKind.signed,wC]
 simp only[wX,Int.reducePow]
 split<;>simp_all<;>omega
theorem zlo (x:BitVec 64):IntKind.wrap .i64 (x.toNat:Int)=x.toInt:=by
 simp only[IntKind.wrap,IntKind.bits,IntKind.signed,wC,wM]
 have:=x.isLt
 simp only[wX,Int.reducePow]
 split<;>simp_all<;>omega
theorem zfj {w:Nat}(hw:w<=64)(x:BitVec 64):BitVec.ofInt w x.toInt=x.setWidth w:=by
 apply wF
 rw[BitVec.toNat_setWidth,wJ,wM]
 have hd:((2:Nat)^w) ∣ 2^64:=Nat.pow_dvd_pow 2 hw
 obtain⟨c,hc⟩:=hd
 have e:((2^64:Nat):Int)=((2^w:Nat):Int)*(c:Int):=by rw[hc];exact Int.natCast_mul _ _
 split
 . rw[<-wS];rfl
 . rw[e,Int.sub_mul_emod_self_left,<-wS];rfl
theorem sw8 (x:BitVec 64):BitVec.ofInt 8 x.toInt=x.setWidth 8:=zfj (by omega) x
theorem sw16 (x:BitVec 64):BitVec.ofInt 16 x.toInt=x.setWidth 16:=zfj (by omega) x
theorem sw32 (x:BitVec 64):BitVec.ofInt 32 x.toInt=x.setWidth 32:=zfj (by omega) x
theorem sw64 (x:BitVec 64):BitVec.ofInt 64 x.toInt=x:=BitVec.ofInt_toInt
theorem znd (a:Int):IntKind.wrap .i64 a=(BitVec.ofInt 64 a).toInt:=by
 rw[<-zlo,<-zos]
 simp only[IntKind.wrap,IntKind.bits,Int.emod_emod]
 rfl
theorem qb1 (x:BitVec 64)(b:Int)(h:0<=b):zbw .shr .i64 x.toInt b=some (.int .i64 (x.sshiftRight b.toNat).toInt):=by
 have h':¬b<0:=by omega
 simp only[zbw,h',if_false,BitVec.toInt_sshiftRight,IntKind.bits]
 congr 2
 rw[Int.shiftRight_eq_div_pow,wN _ (wT (wR (by omega)))]
 rcases w0 b.toNat 64 with hb|hb
 . rw[wV hb];simp
 . rw[wU hb]
   have h1:=x.toInt_lt
   have h2:=x.le_toInt
   have h3:(2:Nat)^64<=2^b.toNat:=wW (by omega) hb
   have h4:((2:Nat)^b.toNat:Int)=(2:Int)^b.toNat:=by simp
   by_cases hx:0<=x.toInt
   . rw[wQ hx (by omega),wQ hx (by omega)]
   . have e1:x.toInt/(2:Int)^64=-1:=by omega
     have e2:x.toInt/(((2:Nat)^b.toNat:Nat):Int)=-1:=by
      apply Int.ediv_eq_neg_one_of_neg_of_le<;>omega
     rw[e1,e2]
theorem qic {n:Int}(h1:-9223372036854775808<=n)(h2:n<=9223372036854775807):∃x:BitVec 64,n=x.toInt :=
 ⟨BitVec.ofInt 64 n,by rw[<-znd,zbf h1 h2]⟩
theorem qey (x:BitVec 64)(n:Nat)(h:n<2^64):((x.toNat:Int)==(n:Int))=(x==BitVec.ofNat 64 n):=by
 rw[Bool.eq_iff_iff,beq_iff_eq,beq_iff_eq,Int.natCast_inj]
 constructor
 . intro e;apply wF;rw[wH,wY h,e]
 . intro e;rw[e,wH,wY h]
theorem qez (x:BitVec 64):((x.toNat:Int)==1)=(x==1#64):=qey x 1 (by omega)
theorem zve (n m:Nat):((n:Int)<(no_index (OfNat.ofNat m:Int)))=(n<@OfNat.ofNat Nat m (instOfNatNat m)):=by
 apply propext;exact wO
theorem zvf (n m:Nat):((n:Int)<=(no_index (OfNat.ofNat m:Int)))=(n<=@OfNat.ofNat Nat m (instOfNatNat m)):=by
 apply propext;exact wP
theorem zur (n m:Nat):((no_index (OfNat.ofNat m:Int))<(n:Int))=(@OfNat.ofNat Nat m (instOfNatNat m)<n):=by
 apply propext;exact wO
theorem zus (n m:Nat):((no_index (OfNat.ofNat m:Int))<=(n:Int))=(@OfNat.ofNat Nat m (instOfNatNat m)<=n):=by
 apply propext;exact wP
theorem qj1 (k:IntKind)(a b:Int):zar .eql k a b=some (.bool (a==b)):=rfl
theorem qjw (k:IntKind)(a b:Int):zar .neq k a b=some (.bool (a != b)):=rfl
theorem qjx (k:IntKind)(a b:Int):zar .lss k a b=some (.bool (a<b)):=rfl
theorem qjy (k:IntKind)(a b:Int):zar .leq k a b=some (.bool (a<=b)):=rfl
theorem qjz (k:IntKind)(a b:Int):zar .gtr k a b=some (.bool (a>b)):=rfl
theorem qj0 (k:IntKind)(a b:Int):zar .geq k a b=some (.bool (a>=b)):=rfl
theorem z9c (a b:Int):zar .add .i64 a b=some (.int .i64 (IntKind.wrap .i64 (a+b))):=rfl
theorem z9a (a b:Int):zar .sub .i64 a b=some (.int .i64 (IntKind.wrap .i64 (a-b))):=rfl
theorem z9b (a b:Int):zar .mul .i64 a b=some (.int .i64 (IntKind.wrap .i64 (a*b))):=rfl
theorem qjt (a b:List UInt8):zoz .eql a b=some (.bool (a==b)):=rfl
theorem qjs (a b:List UInt8):zoz .neq a b=some (.bool (!(a==b))):=rfl
theorem qju {a b:List UInt8}(h:a.length+b.length<=LIM):zoz .add a b=some (.str (a++b)):=by simp[zoz,h]
theorem zal (l:List UInt8):(zad l).length=l.length:=by simp[zad]
theorem zk4 (l:List UInt8):(zad l).take l.length=zad l:=by rw[<-zal,w2]
theorem zm9 {l:List UInt8}{i:Nat}(h:i<l.length):(zad l)[i]? =some (.int .u8 (l[i].toBitVec.toNat:Int)):=by
 rw[zad,List.getElem?_map,List.getElem?_eq_getElem h];rfl
theorem zhg :∀(l:List UInt8),zhh (zad l)=some l
 | []=>rfl
 | b::l=>by
   have e:zad (b::l)= .int .u8 b.toNat::zad l:=rfl
   rw[e,zhh,byteOf,zhg l]
   simp
end Go.Ev
namespace Go.Ev
open Go
theorem z1l {hp hp':Hp}{j k n:Nat}{sh:Sh}:zi6 hp hp' j (.sl k [] 0 n) (.own sh)=(match hp.get k with
  | some (.grow sh' els)=>if Sh.beq sh sh'&&decide (n=els.length)then some (.sl (20000+j) [] 0 n,[.grow sh els])else none
  | _=>none):=rfl
theorem zx0 {k:IntKind}{n:Int}:(AV.int k n).scalar=true:=rfl
theorem ztz {b:Bool}:(AV.bool b).scalar=true:=rfl
theorem zxx {b:List UInt8}:(AV.str b).scalar=true:=rfl
theorem zxz {b:Bool}{sh:Sh}{l:List AV}:(AV.lst b sh l).scalar=true:=rfl
theorem z0m {k:Nat}{p:List Nat}{a b:Nat}:(AV.sl k p a b).scalar=true:=rfl
theorem zxy {k:Nat}{p:List Nat}:(AV.ptr k p).scalar=true:=rfl
theorem zx1 {l:List AV}:(AV.agg l).scalar=false:=rfl
section
variable {hp :Hp} {n:Nat}
theorem z2e {k:IntKind}{x:Int}:zay hp n (.int k x)=some (.int k x):=by cases n<;>rfl
theorem zyi {b:Bool}:zay hp n (.bool b)=some (.bool b):=by cases n<;>rfl
theorem z2b {b:List UInt8}:zay hp n (.str b)=some (.str b):=by cases n<;>rfl
theorem qdc {v:Value}:zay hp n (.s v)=some (.s v):=by cases n<;>rfl
theorem z2f {l:List AV}:zay hp n (.agg l)=some (.agg l):=by cases n<;>rfl
theorem z2d {b:Bool}{sh:Sh}{l:List AV}:zay hp n (.lst b sh l)=some (.lst b sh l):=by cases n<;>rfl
theorem z7f {sh:Sh}{a:AV}:zay hp n (.cp sh a)=some (.cp sh a):=by cases n<;>rfl
theorem z7d {k:Nat}{p:List Nat}{off len:Nat}:zay hp (n+1) (.sl k p off len)=(za6 hp (.sl k p off len)).map fun c=>.lst false c.1 c.2:=rfl
def ptrK (hp:Hp)(n:Nat):Option Sh->Option AV->Option AV
 | some s,some x=>(zay hp n x).bind fun y=>if y.plain then some (.cp s y)else none
 | _,_=>none
def ptrO (hp:Hp)(n:Nat)(p:List Nat):Option OB->Option AV
 | some (.fix sh b)=>ptrK hp n (sh.sub p) (b.nav p)
 | _=>none
theorem z2c {k:Nat}{p:List Nat}:zay hp (n+1) (.ptr k p)=ptrO hp n p (hp.get k):=by
 show(match hp.get k with|some (.fix sh b)=>_|_=>none)=_
 rcases hp.get k with _|_|_|_<;>first|rfl|(simp only[ptrO];rcases Sh.sub _ _ with _|_<;>rcases AV.nav _ _ with _|_<;>rfl)
def aggK :Option (List AV)->Option AV
 | some l=>if AV.plains l then some (.agg l)else none
 | none=>none
theorem zyj {l:List AV}:zay hp (n+1) (.aggR l)=aggK (mapO (zay hp n) l):=by
 show((mapO (zay hp n) l).bind fun l'=>if AV.plains l' then some (AV.agg l')else none)=_
 rcases mapO (zay hp n) l with _|_<;>rfl
theorem z7e {f:Nat}{l:List AV}:zay hp (n+1) (.fn f l)=(mapO (zay hp n) l).map (.fn f):=rfl
def qjm :Option AV->Option (List AV)->Option (List AV)
 | some a,some l=>some (a::l)
 | _,_=>none
theorem z17 {f:AV->Option AV}{a:AV}{l:List AV}:mapO f (a::l)=qjm (f a) (mapO f l):=by
 rw[mapO];rcases f a with _|_
 . rfl
 . rcases mapO f l with _|_<;>rfl
theorem zzq {a:AV}{l:List AV}:qjm (some a) (some l)=some (a::l):=rfl
theorem z67 {f:AV->Option AV}:mapO f []=some []:=rfl
def retK (args:List AV)(hp:Hp)(d:Nat):Option (AV×Hp×List OB)->Option (AV×Hp)
 | some (r,[],[])=>if AV.plains args||zdl r then some (r,[])else none
 | some (r,[],e::es)=>if AV.plains args||(zdl r&&(e::es).all zfk)then(zcf hp d 0 (e::es)).map fun us=>(rn d r,us)else none
 | _=>none
def qeu (cl:Cl)(hp:Hp)(d f:Nat)(args:List AV):Option (List AV)->Option (AV×Hp)
 | some as=>retK args hp d (cl f as [])
 | none=>none
theorem z8q {cl:Cl}{d f:Nat}{args:List AV}:zc3 cl hp d f args .lend=qeu cl hp d f args (mapO (zay hp 4) args):=by
 simp only[zc3]
 rcases mapO (zay hp 4) args with _|as
 . rfl
 . simp only[wE,qeu]
   rcases cl f as []with _|⟨r,_|⟨_,_⟩,_|⟨_,_⟩⟩<;>rfl
theorem zzv {cl:Cl}{d f:Nat}{args as:List AV}:qeu cl hp d f args (some as)=retK args hp d (cl f as []):=rfl
theorem z6k {d:Nat}{args:List AV}{r:AV}:retK args hp d (some (r,[],[]))=if AV.plains args||zdl r then some (r,[])else none:=rfl
theorem z6l {d:Nat}{args:List AV}{r:AV}{e:OB}{es:List OB}:retK args hp d (some (r,[],e::es))=if AV.plains args||(zdl r&&(e::es).all zfk)then(zcf hp d 0 (e::es)).map fun us=>(rn d r,us)else none:=rfl
end
attribute [go_sem] zx0 ztz zxx zxz z0m zxy zx1 z1l zfk
attribute [go_sem] z8k zu3 zu5 zm0 zu4 z8n z4c z8m zaa Opd.val Fr.get St.upd Fr.upd Hp.get zap za5 AV.scalars AV.isAgg AV.kids Sh.sub Sh.agg AV.nav Sh.sizes Sh.size zgu z5d zj1 AV.mk AV.plains AV.plain AV.setNav
attribute [go_sem] zye zz3 z2e zyi z2b qdc z2f z2d z7f z7d z2c ptrO ptrK zyj aggK z7e z17 z67 zzq AV.known z2n zii z8i z38 zke zij zj5 z0k z53 z0l zvi zzy zvj z32 z8c z6n z6o z6m zue zry zx8 zzr z3z zud zrx z65 zuh zyd zui z61 frOf vals
attribute [go_sem] zef zla ze4 bnds za6 sub Sh.beq Sh.beqs
attribute [go_sem] Option.map_some Option.map_none wE List.map List.cons_append List.nil_append List.headD List.tail List.take ite_true ite_false if_true if_false List.getElem?_cons_zero List.getElem?_cons_succ List.set_cons_zero List.set_cons_succ List.length_cons List.length_nil and_self and_true true_and Option.isNone_none Option.isNone_some Bool.and_true wC Bool.and_self decide_true List.replicate List.drop List.isEmpty_nil List.isEmpty_cons
attribute [go_sem] wO wP Int.natCast_nonneg qgy qgz qj6 qku qfh qj7 qfx qhw qat qhp qb0 qb4 qe6 qhk qas qfb qa6 qc3 z5s qcy qbz qb3 qe5 qhj qar qfa qa5 qc2 z5r qcx qby qb2 qe4 qhi qaq qe9 qa4 qc1 z5q qcw zd7 wG BitVec.ofNat_toNat BitVec.setWidth_eq
attribute [go_sem] z8q zzv z6k z6l zdl zdk zfk zcf rn rns zcr zxl zcj frz1 zjg frzE zik mvKs keyL zm7 z0f rnMv rn1 rnFr rnHp sw Kp.keys Kp.owns Kp.ownSrc Kp.slotRefs zfy zka AV.refs AV.refss List.append_nil List.contains_nil List.contains_cons List.all_nil w1 Bool.not_false wD Bool.or_true Bool.true_or Bool.or_false Bool.false_or
attribute [go_sem] zve zvf zur zus ge_iff_le gt_iff_lt Nat.lt_irrefl Nat.le_refl Nat.zero_le Int.cast_ofNat_Int Int.natCast_zero Int.natCast_one decide_false decide_true qez zal zhg sw8 sw16 sw32 sw64 zlo
attribute [go_sem] z4b zzs zva zex z2t z7n z8l
attribute [go_sem] Nat.zero_add Nat.add_zero Int.toNat_natCast
attribute [go_sem] z39 z2r qdg qdj qdh qdi z2s zug zyb z2q zqs z28 z3b z29 z3a beq_self_eq_true
attribute [go_sem] zk4 w2
attribute [go_sem] List.length_append eq_self
attribute [go_sem] qjt qjs qju qj1 qjw qjx qjy qjz qj0 z9c z9a z9b
theorem zzm {cl:Cl}{hp:Hp}{d f:Nat}{args:List AV}:zc3 cl hp d f args .imp=if f<RB then zb4 cl hp d f args (zax hp (AV.refss args))else none:=by rw[zc3]
theorem zuv {hp hp':Hp}{d:Nat}{ks:List Nat}{r:AV}{es:List OB}:zwv hp d ks (some (r,hp',es))=if zbr hp' 0 ks.length then(layG hp ks d 0 es).map fun us=>(rA (dn ks d) r,zdu ks d hp'++us)else none:=rfl
def zkf (hp:Hp)(all:List Nat):List Nat->Bool
 | []=>true
 | k::l=>((hp.get k).isSome&&(zk9 (hp.get k)).all all.contains)&&zkf hp all l
def zmj (hp:Hp)(all:List Nat):List Nat->List OB
 | []=>[]
 | k::l=>rOB (nm all) (getO hp k)::zmj hp all l
def inL :List Nat->Bool
 | []=>true
 | k::l=>decide (SHK<=k)&&inL l
def outL :List Nat->Bool
 | []=>true
 | k::l=>decide (k<SHK)&&outL l
theorem zm6 (hp:Hp)(all:List Nat):∀l:List Nat,zkf hp all l=l.all fun k=>(hp.get k).isSome&&(zk9 (hp.get k)).all all.contains
 | []=>rfl
 | k::l=>by rw[zkf,zm6 hp all l,w1]
theorem zmi (hp:Hp)(all:List Nat):∀l:List Nat,zmj hp all l=l.map fun k=>rOB (nm all) (getO hp k)
 | []=>rfl
 | k::l=>by rw[zmj,zmi hp all l,List.map_cons]
theorem z23 :∀l:List Nat,inL l=l.all fun k=>decide (SHK<=k)
 | []=>rfl
 | k::l=>by rw[inL,z23 l,w1]
theorem zwa :∀l:List Nat,outL l=l.all fun k=>decide (k<SHK)
 | []=>rfl
 | k::l=>by rw[outL,zwa l,w1]
theorem ztd (hp:Hp)(ks:List Nat):zdp hp ks=zkf hp ks ks:=(zm6 hp ks ks).symm
theorem qcr (st:St)(hk:List Nat)(rs:List AV)(E:List Nat):zft st hk rs E =
  if zkf st.hp (hk++E) (hk++E)&&(AV.refss rs).all (hk++E).contains&&ze4 (hk++E)&&inL hk&&outL E&&decide (E.length<1000)&&AV.knowns rs then
   some (rAs (nm E) rs,zeq st.hp E hk,zmj st.hp E E)
  else none:=by
 rw[zft,ztd,z23,zwa,zmi]
attribute [go_sem] zkf zmj inL outL
attribute [go_sem] RB zzm zuv zb4 zax ze2 ztd zk9 zdd getO idx up dn rA rAs rOB upHp zdu zbr layG SHK zow ksA bigs z33 z8d z3y z18 qcr zcy qch zcq zeq nm zp2 AV.knowns Option.getD_some List.getD_cons_zero List.getD_cons_succ Option.isSome_some Option.isSome_none
end Go.Ev
