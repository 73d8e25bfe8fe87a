/-
  For the evaluator's user: evaluation by simp, no lambda on the way. No condition.
-/
import Derived.Test.YtcddalfeicoedaaGreatDoorEvD
import Derived.Attr
set_option linter.all false
open Bool renaming false_eq_true->wA,true_and->wB,not_true->wC
open Option renaming bind_some->wD
open BitVec renaming eq_of_toNat_eq->wE,ofInt_natCast->wF,toNat_ofNat->wG,toNat_ofInt->wH,ofInt_mul->wI,ofInt_add->wJ,toInt->wK
open Int renaming fdiv_eq_ediv_of_nonneg->wL,ofNat_lt->wM,ofNat_le->wN,ediv_eq_zero_of_lt->wO,pow_pos->wP,natCast_emod->wQ,le_of_lt->wR
open Nat renaming min_eq_right->wS,min_eq_left->wT,pow_le_pow_right->wU,add_one_sub_one->wV,mod_eq_of_lt->wW,div_eq_of_lt->wX,le_total->wY
open List renaming all_cons->wZ,take_length->w0
namespace Go.Ev
open Go
class Lq (p:Prop):Prop where
 t:True
instance {α :Type} {a b:α}:Lq (a=b):=⟨trivial⟩
instance {α :Type} [LE α] {a b:α}:Lq (a<=b):=⟨trivial⟩
instance {α :Type} [LT α] {a b:α}:Lq (a<b):=⟨trivial⟩
instance {a b:Prop}:Lq (a/\b):=⟨trivial⟩
instance {a b:Prop}:Lq (a\/b):=⟨trivial⟩
instance {a b:Prop}:Lq (a↔b):=⟨trivial⟩
theorem zq {p:Prop}[Lq p](h:p):p:=h
abbrev Its.o (d:Nat)(m:MOp)(r:Its):Its:=.op (some d) m r
abbrev Its.u (m:MOp)(r:Its):Its:=.op none m r
abbrev FO.o (d:Nat)(m:MOp):FO:=⟨some d,m,none⟩
abbrev FO.u (m:MOp):FO:=⟨none,m,none⟩
abbrev FO.w (d g:Nat)(b:Bool)(m:MOp):FO:=⟨some d,m,some (g,b)⟩
abbrev MOp.m (i:Nat):MOp:=.mov (.t i)
abbrev MOp.l (i:Nat):MOp:=.load false 1 (.t i)
abbrev MOp.L (n i:Nat):MOp:=.load true n (.t i)
abbrev MOp.a (i off x:Nat):MOp:=.faddr i off (.t x)
abbrev MOp.b (op:BinOp)(x y:Nat):MOp:=.bin op (.t x) (.t y)
abbrev MOp.S (n p x:Nat):MOp:=.store n (.t p) (.t x)
abbrev MOp.x (t i:Nat):MOp:=.extr (.t t) i
abbrev MOp.n (t:Nat):MOp:=.len false (.t t)
abbrev MOp.I (esz x i:Nat):MOp:=.iaddrS esz (.t x) (.t i)
abbrev MOp.q (a b:Nat):MOp:=.pick (.t a) (.t b) (.c (.bool false))
abbrev Opd.i (n:Int):Opd:=.c (.int .i64 n)
def seqK (gl:Gl)(cl:Cl)(b:MC):Option (Ex×St)->Option (Ex×St)
 | some (.norm,st)=>evC gl cl b st
 | r=>r
def zn7 (id:Nat):Option (Ex×St)->Option (Ex×St)
 | some (e,st)=>some (if e= .exit id then .norm else e,st)
 | none=>none
def qkg (ks:List Kp):Option (Ex×St)->Option (Ex×St)
 | some (.norm,st)=>(zda ks st).map fun st=>(.norm,st)
 | r=>r
def qao :Option St->Option (Ex×St)
 | some st=>some (.norm,st)
 | none=>none
def itsK (gl:Gl)(cl:Cl)(d:Option Nat)(rest:Its)(st:St):Option (AV×Hp)->Option St
 | some (v,us)=>zcz gl cl rest (st.upd d v us)
 | none=>none
def iteK (gl:Gl)(cl:Cl)(lo hi d:Nat)(rest:Its)(st:St):Option AV->Option St
 | some x=>zcz gl cl rest {fr:=.set d x::.clr lo hi::st.fr,hp:=st.hp}
 | none=>none
def fnK (fd:Fd):Option (Ex×St)->Option (AV×Hp×List OB)
 | some (.norm,st)|some (.ret,st)=>(zgp st fd.res fd.pk).map fun z=>(match z.1 with|[a]=>a|l=>.tup l,[],z.2)
 | _=>none
section
variable {gl :Gl} {cl:Cl} {st:St}
theorem z61 :evC gl cl .skip st=some (.norm,st):=rfl
theorem qb9 :evC gl cl .ret st=some (.ret,st):=rfl
theorem z64 {i:Nat}:evC gl cl (.exit i) st=some (.exit i,st):=rfl
theorem qb8 {a b:MC}:evC gl cl (.seq a b) st=seqK gl cl b (evC gl cl a st):=by
 rw[evC];rcases evC gl cl a st with _|⟨_|_|_,_⟩<;>rfl
theorem zzb {b:MC}:seqK gl cl b (some (.norm,st))=evC gl cl b st:=by rw[seqK]
theorem z3q {b:MC}:seqK gl cl b (some (.ret,st))=some (.ret,st):=rfl
theorem zzc {b:MC}{i:Nat}:seqK gl cl b (some (.exit i,st))=some (.exit i,st):=rfl
theorem z2b {i:Nat}{b:MC}:evC gl cl (.block i b) st=zn7 i (evC gl cl b st):=by
 rw[evC];rcases evC gl cl b st with _|⟨_,_⟩<;>rfl
theorem zt3 {i:Nat}:zn7 i (some (.norm,st))=some (.norm,st):=rfl
theorem zyj {i:Nat}:zn7 i (some (.ret,st))=some (.ret,st):=rfl
theorem zt4 {i j:Nat}:zn7 i (some (.exit j,st))=some (if j=i then .norm else .exit j,st):=by simp[zn7]
theorem z63 {ks:List Kp}{b:MC}:evC gl cl (.kept ks b) st=qkg ks (evC gl cl b st):=by
 rw[evC];rcases evC gl cl b st with _|⟨_|_|_,_⟩<;>rfl
theorem qca {i:Its}:evC gl cl (.reg i) st=qao (zcz gl cl i st):=by rw[evC];cases zcz gl cl i st<;>rfl
theorem zw2 :qao (some st)=some (.norm,st):=rfl
theorem z15 :zcz gl cl .nil st=some st:=rfl
theorem z6z {d:Option Nat}{m:MOp}{r:Its}:zcz gl cl (.op d m r) st=itsK gl cl d r st (zae gl cl st d m):=by
 rw[zcz];rcases zae gl cl st d m with _|⟨_,_⟩<;>rfl
theorem z0w {d:Option Nat}{r:Its}{v:AV}{us:Hp}:itsK gl cl d r st (some (v,us))=zcz gl cl r (st.upd d v us):=by rw[itsK]
end
def zb6 (gl:Gl)(cl:Cl):List FO->St->Option St
 | [],st=>some st
 | o::l,st =>
   match o.g with
   | none=>(zae gl cl st o.d o.m).bind fun r=>zb6 gl cl l (st.upd o.d r.1 r.2)
   | some (c,want) =>
     match st.fr.get c with
     | .bool t=>if t=want then(zae gl cl st o.d o.m).bind fun r=>zb6 gl cl l (st.upd o.d r.1 r.2)else zb6 gl cl l (st.upd o.d (.tup []) [])
     | .tup []=>zb6 gl cl l (st.upd o.d (.tup []) [])
     | _=>none
def znw (gl:Gl)(cl:Cl)(d:Option Nat)(l:List FO)(st:St):Option (AV×Hp)->Option St
 | some (v,us)=>zb6 gl cl l (st.upd d v us)
 | none=>none
section
variable {gl :Gl} {cl:Cl} {st:St}
theorem zjq :∀{l:List FO} {st:St},(zbw gl cl l st).map (·.1)=zb6 gl cl l st
 | [],st=>rfl
 | o::l,st=>by
   have ih:=fun st=>zjq (l:=l) (st:=st)
   obtain⟨d,m,g⟩:=o
   cases g with
   | none=>simp only[zbw,zb6];cases zae gl cl st d m<;>simp[<-ih,Function.comp_def]
   | some p =>
     obtain⟨c,want⟩:=p
     simp only[zbw,zb6]
     cases st.fr.get c with
     | bool t=>by_cases h:t=want<;>simp only[h,if_true,if_false]<;>first|(cases zae gl cl st d m<;>simp[<-ih,Function.comp_def];done)|simp[<-ih,Function.comp_def]
     | tup l=>cases l<;>simp[<-ih,Function.comp_def]
     | _=>rfl
theorem z19 {l:List FO}:evC gl cl (.draw l []) st=qao (zb6 gl cl l st):=by
 rw[evC,<-zjq];rcases zbw gl cl l st with _|⟨_,_⟩<;>rfl
theorem ztr :zb6 gl cl [] st=some st:=rfl
theorem zx3 {d:Option Nat}{m:MOp}{l:List FO}:zb6 gl cl (⟨d,m,none⟩::l) st=znw gl cl d l st (zae gl cl st d m):=by
 rw[zb6];rcases zae gl cl st d m with _|⟨_,_⟩<;>rfl
theorem ztn {d:Option Nat}{l:List FO}{v:AV}{us:Hp}:znw gl cl d l st (some (v,us))=zb6 gl cl l (st.upd d v us):=by rw[znw]
end
theorem qb6 {gl:Gl}{cl:Cl}{fd:Fd}{args:List AV}(hg:zjm fd.pk=false):evFn gl cl fd args []=fnK fd (evC gl cl fd.body {fr:=frOf 0 args,hp:=[]}):=by
 rw[evFn,hg];simp only[wA,if_false];rcases evC gl cl fd.body _ with _|⟨_|_|_,_⟩<;>rfl
theorem qcq {gl:Gl}{tab:Nat->Option Fd}{n f:Nat}{args:List AV}{fd:Fd}(h:tab f=some fd)(hg:zjm fd.pk=false)(hv:fd.giv=none:=by rfl):call gl tab (n+1) f args []=fnK fd (evC gl (call gl tab n) fd.body {fr:=frOf 0 args,hp:=[]}):=by
 rw[call,h];simp only[wD,hv];exact qb6 hg
theorem zk4 {gl:Gl}{tab:Nat->Option Fd}{n f:Nat}{args:List AV}{imps:Hp}{fd:Fd}{g}(h:tab f=some fd)(hv:fd.giv=some g:=by rfl):call gl tab (n+1) f args imps=g gl (call gl tab n) args imps:=by
 rw[call,h];simp only[wD,hv]
theorem zme {f:St->Option (Ex×St)}{ks:List Kp}{n:Nat}{st st1 st2:St}(h:zda ks st=some st1)(hf:f st1=some (.norm,st2)):iter f ks (n+1) st=iter f ks n st2:=by
 rw[iter,h];simp[hf]
theorem zkz {f:St->Option (Ex×St)}{ks:List Kp}{n:Nat}{st st1 st2:St}{e:Ex}(h:zda ks st=some st1)(hf:f st1=some (e,st2))(he:e≠.norm):iter f ks (n+1) st=some (e,st2):=by
 rw[iter,h];cases e<;>simp_all
theorem z48 {f:St->Option (Ex×St)}{ks:List Kp}(S:Nat->St)(N:Nat){st out:St}{e:Ex}(hN:N<LF)
  (h0:zda ks st=some (S 0)) (hs:∀i,i<N->∃st2,f (S i)=some (.norm,st2)/\zda ks st2=some (S (i+1))) (he:f (S N)=some (e,out)) (hne:e≠.norm) :
  iter f ks LF st=some (e,out):=by
 have key:∀(d i n:Nat) (st:St),i+d=N->d<n->zda ks st=some (S i)->iter f ks n st=some (e,out):=by
  intro d
  induction d with
  | zero =>
    intro i n st hi hn hc
    obtain⟨n,rfl⟩:∃m,n=m+1:=⟨n-1,by omega⟩
    have:i=N:=by omega
    subst this
    exact zkz hc he hne
  | succ d ih =>
    intro i n st hi hn hc
    obtain⟨n,rfl⟩:∃m,n=m+1:=⟨n-1,by omega⟩
    obtain⟨st2,h1,h2⟩:=hs i (by omega)
    rw[zme hc h1]
    exact ih (i+1) n st2 (by omega) (by omega) h2
 exact key N 0 LF st (by omega) hN h0
end Go.Ev
namespace Go.Ev
open Go
def finK (res:List ResD)(pk:List Pk):Option (Ex×St)->Option (AV×Hp×List OB)
 | some (.norm,st)|some (.ret,st)=>(zgp st res pk).map fun z=>(match z.1 with|[a]=>a|l=>.tup l,[],z.2)
 | _=>none
theorem zad {gl:Gl}{tab:Nat->Option Fd}{n f:Nat}{args:List AV}{fd:Fd}(h:tab f=some fd)(hg:zjm fd.pk=false:=by rfl)(hv:fd.giv=none:=by rfl):call gl tab (n+1) f args []=finK fd.res fd.pk (evC gl (call gl tab n) fd.body {fr:=frOf 0 args,hp:=[]}):=by
 rw[qcq h hg hv];rcases evC gl (call gl tab n) fd.body _ with _|⟨_|_|_,_⟩<;>rfl
def resK :Option (List AV×List OB)->Option (AV×Hp×List OB)
 | some ([a],es)=>some (a,[],es)
 | some (l,es)=>some (.tup l,[],es)
 | none=>none
theorem z1z {res:List ResD}{pk:List Pk}{st:St}:finK res pk (some (.norm,st))=resK (zgp st res pk):=by
 simp only[finK];rcases zgp st res pk with _|⟨_|⟨a,_|⟨b,l⟩⟩,es⟩<;>rfl
theorem z5q {res:List ResD}{pk:List Pk}{st:St}:finK res pk (some (.ret,st))=resK (zgp st res pk):=by
 simp only[finK];rcases zgp st res pk with _|⟨_|⟨a,_|⟨b,l⟩⟩,es⟩<;>rfl
theorem z4c {a:AV}{es:List OB}:resK (some ([a],es))=some (a,[],es):=rfl
theorem z4d {es:List OB}:resK (some ([],es))=some (.tup [],[],es):=rfl
theorem z4b {a b:AV}{l:List AV}{es:List OB}:resK (some (a::b::l,es))=some (.tup (a::b::l),[],es):=rfl
def qck (a:AV):Option (List AV)->Option (List AV)
 | some l=>some (a::l)
 | none=>none
def qad (st:St)(rs:List ResD):Option AV->Option (List AV)
 | some a=>qck a (zbh st rs)
 | none=>none
theorem zsv {st:St}:zbh st []=some []:=rfl
theorem zqy {st:St}{r:ResD}{rs:List ResD}:zbh st (r::rs)=qad st rs (zfb st r):=by
 rw[zbh];rcases zfb st r with _|a
 . rfl
 . simp only[wD,qad];rcases zbh st rs with _|l<;>rfl
theorem zww {st:St}{rs:List ResD}{a:AV}:qad st rs (some a)=qck a (zbh st rs):=rfl
theorem zye {a:AV}{l:List AV}:qck a (some l)=some (a::l):=rfl
def fstK :Option (AV×Hp)->Option AV
 | some q=>some q.1
 | none=>none
theorem z1w {a:AV}{us:Hp}:fstK (some (a,us))=some a:=rfl
theorem zsu {st:St}{t:Nat}:zfb st (.tmp t)=some (st.fr.get t):=rfl
theorem zqx {st:St}{t n:Nat}{ag:Bool}:zfb st (.cell t ag n)=fstK (zae Gl.none (fun _ _ _=>none) st none (.load ag n (.t t))):=by
 rw[zfb];rcases zae _ _ st none _ with _|⟨a,b⟩<;>rfl
def z75 (st:St)(pks:List Pk):Option (List AV)->Option (List AV×List OB)
 | some rs=>if zgq (zd7 rs pks)then zef st.hp (zkn (zd7 rs pks)++st.hp) 0 rs pks else none
 | none=>none
theorem z4v {st:St}{res:List ResD}{pks:List Pk}:zgp st res pks=z75 st pks (zbh st res):=by
 rw[zgp];rcases zbh st res with _|rs<;>rfl
theorem zs0 {st:St}{pks:List Pk}{rs:List AV}:z75 st pks (some rs)=if zgq (zd7 rs pks)then zef st.hp (zkn (zd7 rs pks)++st.hp) 0 rs pks else none:=rfl
def prK (hp hp':Hp)(j:Nat)(rs:List AV)(pks:List Pk):Option (AV×List OB)->Option (List AV×List OB)
 | some (a,es)=>(zef hp hp' (j+es.length) rs pks).map fun z=>(a::z.1,es++z.2)
 | none=>none
theorem zwz {hp hp':Hp}{j:Nat}{pks:List Pk}:zef hp hp' j [] pks=some ([],[]):=by cases pks<;>rfl
theorem zs1 {hp hp':Hp}{j:Nat}{r:AV}{rs:List AV}{pks:List Pk}:zef hp hp' j (r::rs) pks=prK hp hp' j rs pks.tail (zin hp hp' j r (pks.headD .asis)):=by
 rw[zef];rcases zin hp hp' j r (pks.headD .asis)with _|⟨a,es⟩<;>rfl
theorem z4r {hp hp':Hp}{j:Nat}{rs:List AV}{pks:List Pk}{a:AV}{es:List OB}:prK hp hp' j rs pks (some (a,es))=(zef hp hp' (j+es.length) rs pks).map fun z=>(a::z.1,es++z.2):=rfl
def qg9 :Option AV->Option (AV×List OB)
 | some a=>if a.known then some (a,[])else none
 | none=>none
theorem zw0 {hp hp':Hp}{j:Nat}{r:AV}:zin hp hp' j r .asis=qg9 (za1 hp' 4 r):=by
 rw[zin];rcases za1 hp' 4 r with _|a<;>rfl
theorem zyp {a:AV}:qg9 (some a)=if a.known then some (a,[])else none:=rfl
end Go.Ev
namespace Go.Ev
open Go
theorem z62 {gl:Gl}{cl:Cl}{ks:List Kp}{b:MC}{st:St}:evC gl cl (.loop ks b) st=iter (evC gl cl b) ks LF st:=rfl
end Go.Ev
namespace Go.Ev
open Go
def zbd (ks:List Kp):Option (Ex×St)->Option St
 | some (.norm,st)=>zda ks st
 | _=>none
theorem zyc {ks:List Kp}{st:St}:zbd ks (some (.norm,st))=zda ks st:=rfl
def isEx :Option (Ex×St)->Bool
 | some (.exit _,_)=>true
 | some (.ret,_)=>true
 | _=>false
theorem z02 {i:Nat}{st:St}:isEx (some (.exit i,st))=true:=rfl
theorem z49 {st:St}:isEx (some (.ret,st))=true:=rfl
theorem zag {f:St->Option (Ex×St)}{ks:List Kp}(S:Nat->St)(N:Nat){st:St}(hN:N<LF)(h0:zda ks st=some (S 0))(hs:∀i,i<N->zbd ks (f (S i))=some (S (i+1)))(he:isEx (f (S N))=true) :
  iter f ks LF st=f (S N):=by
 cases h:f (S N)with
 | none=>rw[h]at he;cases he
 | some r =>
   obtain⟨e,out⟩:=r
   refine z48 S N hN h0 (fun i hi=> ?_) h (by rw[h]at he;cases e<;>simp_all[isEx])
   have:=hs i hi
   unfold zbd at this
   split at this
   . rename_i st2 h2;exact⟨st2,h2,this⟩
   . cases this
end Go.Ev
namespace Go.Ev
open Go
def qcl (gl:Gl)(cl:Cl)(a b:MC)(st:St):AV->Option (Ex×St)
 | .bool true=>evC gl cl a st
 | .bool false=>evC gl cl b st
 | _=>none
theorem z2a {gl:Gl}{cl:Cl}{c:Opd}{a b:MC}{st:St}:evC gl cl (.cond c a b) st=qcl gl cl a b st (c.val gl st.fr):=by
 rw[evC];cases c.val gl st.fr<;>first|rfl|(rename_i t;cases t<;>rfl)
theorem zyf {gl:Gl}{cl:Cl}{a b:MC}{st:St}:qcl gl cl a b st (.bool true)=evC gl cl a st:=rfl
theorem ztw {gl:Gl}{cl:Cl}{a b:MC}{st:St}:qcl gl cl a b st (.bool false)=evC gl cl b st:=rfl
def zq7 (x:AV):Option AV:=if x.plain then some x else none
def iteC (gl:Gl)(a:Opd):Option St->Option AV
 | some st1=>zq7 (a.val gl st1.fr)
 | none=>none
def iteS (gl:Gl)(cl:Cl)(w t:Bool)(blk:Its)(a b:Opd)(st:St):Option AV :=
 if t=w then iteC gl (if w then a else b) (zcz gl cl blk st)else some ((if w then b else a).val gl st.fr)
def iteD (gl:Gl)(cl:Cl)(w:Bool)(blk:Its)(lo hi d:Nat)(a b:Opd)(rest:Its)(st:St):AV->Option St
 | .bool t=>iteK gl cl lo hi d rest st (iteS gl cl w t blk a b st)
 | _=>none
def zgv (gl:Gl)(cl:Cl)(d:Option Nat)(m:MOp)(w:Bool)(l:List FO)(st:St):AV->Option St
 | .bool t=>if t=w then znw gl cl d l st (zae gl cl st d m)else zb6 gl cl l (st.upd d (.tup []) [])
 | .tup []=>zb6 gl cl l (st.upd d (.tup []) [])
 | _=>none
section
variable {gl :Gl} {cl:Cl} {st:St}
theorem z17 {c:Nat}{w:Bool}{blk:Its}{lo hi d:Nat}{a b:Opd}{rest:Its} :
  zcz gl cl (.ite c w blk lo hi d a b rest) st=iteD gl cl w blk lo hi d a b rest st (st.fr.get c):=by
 rw[zcz]
 cases st.fr.get c with
 | bool t =>
   simp only[iteD,iteS]
   split
   . cases w<;>(simp only[if_true,if_false,wA];cases zcz gl cl blk st with
      | none=>rfl
      | some st1=>simp only[wD,iteC,zq7];split<;>rfl)
   . rfl
 | _=>rfl
theorem z00 {t w:Bool}{blk:Its}{lo hi d:Nat}{a b:Opd}{rest:Its}:iteD gl cl w blk lo hi d a b rest st (.bool t)=iteK gl cl lo hi d rest st (iteS gl cl w t blk a b st):=rfl
theorem qbf {blk:Its}{a b:Opd}:iteS gl cl true true blk a b st=iteC gl a (zcz gl cl blk st):=rfl
theorem qbi {blk:Its}{a b:Opd}:iteS gl cl false false blk a b st=iteC gl b (zcz gl cl blk st):=rfl
theorem qbg {blk:Its}{a b:Opd}:iteS gl cl true false blk a b st=some (b.val gl st.fr):=rfl
theorem qbh {blk:Its}{a b:Opd}:iteS gl cl false true blk a b st=some (a.val gl st.fr):=rfl
theorem z01 {a:Opd}{st1:St}:iteC gl a (some st1)=zq7 (a.val gl st1.fr):=rfl
theorem zsy {b:Bool}:zq7 (.bool b)=some (.bool b):=rfl
theorem zwx {k:IntKind}{n:Int}:zq7 (.int k n)=some (.int k n):=rfl
theorem z0z {lo hi d:Nat}{rest:Its}{x:AV}:iteK gl cl lo hi d rest st (some x)=zcz gl cl rest {fr:=.set d x::.clr lo hi::st.fr,hp:=st.hp}:=rfl
theorem zpx {d:Option Nat}{m:MOp}{c:Nat}{w:Bool}{l:List FO}:zb6 gl cl (⟨d,m,some (c,w)⟩::l) st=zgv gl cl d m w l st (st.fr.get c):=by
 rw[zb6]
 simp only
 generalize st.fr.get c=v
 cases v with
 | bool t =>
   simp only[zgv]
   by_cases h:t=w
   . simp only[h,if_true];rcases zae gl cl st d m with _|⟨_,_⟩<;>rfl
   . simp only[h,if_false]
 | tup l=>cases l<;>rfl
 | _=>rfl
theorem z1f {d:Option Nat}{m:MOp}{l:List FO}:zgv gl cl d m true l st (.bool true)=znw gl cl d l st (zae gl cl st d m):=by rw[zgv,if_pos rfl]
theorem z1i {d:Option Nat}{m:MOp}{l:List FO}:zgv gl cl d m false l st (.bool false)=znw gl cl d l st (zae gl cl st d m):=by rw[zgv,if_pos rfl]
theorem z1g {d:Option Nat}{m:MOp}{l:List FO}:zgv gl cl d m true l st (.bool false)=zb6 gl cl l (st.upd d (.tup []) []):=by rw[zgv,if_neg (by decide)]
theorem z1h {d:Option Nat}{m:MOp}{l:List FO}:zgv gl cl d m false l st (.bool true)=zb6 gl cl l (st.upd d (.tup []) []):=by rw[zgv,if_neg (by decide)]
end
end Go.Ev
namespace Go.Ev
open Go
def mapG :Option (List AV×Hp×List OB)->Option (AV×Hp×List OB)
 | some (l,hp,es)=>some (zrf l,hp,es)
 | none=>none
def genK (st:St)(hk:List Nat):Option (List AV)->Option (AV×Hp×List OB)
 | some rs=>mapG (zfl st hk rs (zck st hk rs))
 | none=>none
def finG (res:List ResD)(hk:List Nat):Option (Ex×St)->Option (AV×Hp×List OB)
 | some (.norm,st)|some (.ret,st)=>genK st hk (zbh st res)
 | _=>none
theorem za7 {gl:Gl}{tab:Nat->Option Fd}{n f:Nat}{args:List AV}{imps:Hp}{fd:Fd}(h:tab f=some fd)(hg:zjm fd.pk=true:=by rfl)(hm:mcLt fd.body=true:=by rfl)(hv:fd.giv=none:=by rfl) :
  call gl tab (n+1) f args imps=finG fd.res (zcf imps) (evC gl (call gl tab n) fd.body {fr:=frOf 0 args,hp:=imps}):=by
 have key:∀st:St,((zbh st fd.res).bind fun rs=>(zfl st (zcf imps) rs (zck st (zcf imps) rs)).map fun z=>(zrf z.1,z.2.1,z.2.2))=genK st (zcf imps) (zbh st fd.res):=fun st=>by
  rcases zbh st fd.res with _|rs
  . rfl
  . simp only[wD,genK]
    rcases zfl st (zcf imps) rs (zck st (zcf imps) rs)with _|⟨_,_,_⟩<;>rfl
 rw[call,h]
 simp only[wD,hv,evFn,hg,hm,if_true,wC,wA,if_false]
 rcases evC gl (call gl tab n) fd.body _ with _|⟨_|_|_,st⟩
 . rfl
 . exact key st
 . rfl
 . exact key st
theorem zrx {res:List ResD}{hk:List Nat}{st:St}:finG res hk (some (.norm,st))=genK st hk (zbh st res):=rfl
theorem zvm {res:List ResD}{hk:List Nat}{st:St}:finG res hk (some (.ret,st))=genK st hk (zbh st res):=rfl
theorem zmk {st:St}{hk:List Nat}{rs:List AV}:genK st hk (some rs)=mapG (zfl st hk rs (zck st hk rs)):=rfl
theorem z0k {l:List AV}{hp:Hp}{es:List OB}:mapG (some (l,hp,es))=some (zrf l,hp,es):=rfl
end Go.Ev
namespace Go.Ev
open Go
theorem zn2 (w:Nat)(a:Int):a%(2^w:Int)=((BitVec.ofInt w a).toNat:Int):=by
 rw[wH]
 have h:(0:Int)<2^w:=wP (by omega)
 have h1:=Int.emod_nonneg a (Int.ne_of_gt h)
 have e:((2^w:Nat):Int)=(2:Int)^w:=by simp
 rw[e]
 exact(Int.toNat_of_nonneg h1).symm
theorem zdz {w:Nat}(x:BitVec w):BitVec.ofInt w (x.toNat:Int)=x:=by simp
theorem znk (w:Nat)(a b:Int):BitVec.ofInt w (a-b)=BitVec.ofInt w a-BitVec.ofInt w b:=by
 rw[Int.sub_eq_add_neg,wJ,BitVec.ofInt_neg,BitVec.sub_eq_add_neg]
theorem zkj {k:IntKind}(hs:k.signed=false)(a:Int):k.wrap a=((BitVec.ofInt k.bits a).toNat:Int):=by
 rw[<-zn2];simp[IntKind.wrap,hs]
section
variable {k :IntKind} (hs:k.signed=false)
include hs
theorem andU (a b:Int):zar .and k a b=some (.int k ((BitVec.ofInt k.bits a&&&BitVec.ofInt k.bits b).toNat:Int)):=by
 simp only[zar,zkj hs,zdz]
theorem orU (a b:Int):zar .or k a b=some (.int k ((BitVec.ofInt k.bits a|||BitVec.ofInt k.bits b).toNat:Int)):=by
 simp only[zar,zkj hs,zdz]
theorem xorU (a b:Int):zar .xor k a b=some (.int k ((BitVec.ofInt k.bits a^^^BitVec.ofInt k.bits b).toNat:Int)):=by
 simp only[zar,zkj hs,zdz]
theorem addU (a b:Int):zar .add k a b=some (.int k ((BitVec.ofInt k.bits a+BitVec.ofInt k.bits b).toNat:Int)):=by
 simp only[zar,zkj hs,wJ]
theorem subU (a b:Int):zar .sub k a b=some (.int k ((BitVec.ofInt k.bits a-BitVec.ofInt k.bits b).toNat:Int)):=by
 simp only[zar,zkj hs,znk]
theorem mulU (a b:Int):zar .mul k a b=some (.int k ((BitVec.ofInt k.bits a*BitVec.ofInt k.bits b).toNat:Int)):=by
 simp only[zar,zkj hs,wI]
theorem shlU (a b:Int)(h:0<=b):zbz .shl k a b=some (.int k ((BitVec.ofInt k.bits a<<<b.toNat).toNat:Int)):=by
 have h':¬b<0:=by omega
 simp only[zbz,h',if_false,zkj hs]
 have e:BitVec.ofInt k.bits (a*2^min b.toNat k.bits)=BitVec.ofInt k.bits a<<<b.toNat:=by
  rw[wI]
  rcases Nat.lt_or_ge b.toNat k.bits with hb|hb
  . rw[wT (Nat.le_of_lt hb)]
    have:BitVec.ofInt k.bits (2^b.toNat)=BitVec.twoPow k.bits b.toNat:=by
     rw[show(2:Int)^b.toNat=((2^b.toNat:Nat):Int) by simp,wF,BitVec.twoPow_eq]
     apply wE
     simp[Nat.shiftLeft_eq]
    rw[this,BitVec.mul_twoPow_eq_shiftLeft]
  . rw[wS hb,BitVec.shiftLeft_eq_zero hb]
    have:BitVec.ofInt k.bits (2^k.bits)=0#k.bits:=by
     rw[show(2:Int)^k.bits=((2^k.bits:Nat):Int) by simp,wF]
     apply wE
     simp
    rw[this,BitVec.mul_zero]
 rw[e]
omit hs in
theorem shrU {k:IntKind}(x:BitVec k.bits)(b:Int)(h:0<=b):zbz .shr k (x.toNat:Int) b=some (.int k ((x>>>b.toNat).toNat:Int)):=by
 have h':¬b<0:=by omega
 simp only[zbz,h',if_false]
 have e:((x.toNat:Int)).fdiv (2^min b.toNat k.bits)=((x>>>b.toNat).toNat:Int):=by
  rw[BitVec.toNat_ushiftRight,Nat.shiftRight_eq_div_pow,wL _ (wR (wP (by omega)))]
  rw[show(2:Int)^min b.toNat k.bits=((2^min b.toNat k.bits:Nat):Int) by simp,<-Int.natCast_ediv]
  congr 1
  rcases wY b.toNat k.bits with hb|hb
  . rw[wT hb]
  . rw[wS hb,wX x.isLt,wX (Nat.lt_of_lt_of_le x.isLt (wU (by omega) hb))]
 rw[e]
theorem notU (a:Int):k.wrap ((BitVec.ofInt k.bits (if k.signed then -1 else k.max)^^^BitVec.ofInt k.bits a).toNat)=((~~~ BitVec.ofInt k.bits a).toNat:Int):=by
 rw[zkj hs,zdz]
 congr 2
 have:BitVec.ofInt k.bits (if k.signed then -1 else k.max)=BitVec.allOnes k.bits:=by
  rw[hs]
  simp only[wA,if_false,IntKind.max,hs]
  rw[znk,show(2:Int)^k.bits=((2^k.bits:Nat):Int) by simp,wF]
  have:BitVec.ofNat k.bits (2^k.bits)=0#k.bits:=by apply wE;simp
  rw[this,BitVec.zero_sub,<-BitVec.neg_one_eq_allOnes]
  rfl
 rw[this,BitVec.allOnes_xor]
end
theorem z8u (a:Int):IntKind.wrap .u8 a=((BitVec.ofInt 8 a).toNat:Int):=zkj rfl a
theorem qhe (a b:Int):zar .and .u8 a b=some (.int .u8 ((BitVec.ofInt 8 a&&&BitVec.ofInt 8 b).toNat:Int)):=andU rfl a b
theorem qh8 (a b:Int):zar .or .u8 a b=some (.int .u8 ((BitVec.ofInt 8 a|||BitVec.ofInt 8 b).toNat:Int)):=orU rfl a b
theorem qdf (a b:Int):zar .xor .u8 a b=some (.int .u8 ((BitVec.ofInt 8 a^^^BitVec.ofInt 8 b).toNat:Int)):=xorU rfl a b
theorem qhf (a b:Int):zar .add .u8 a b=some (.int .u8 ((BitVec.ofInt 8 a+BitVec.ofInt 8 b).toNat:Int)):=addU rfl a b
theorem qdu (a b:Int):zar .sub .u8 a b=some (.int .u8 ((BitVec.ofInt 8 a-BitVec.ofInt 8 b).toNat:Int)):=subU rfl a b
theorem qev (a b:Int):zar .mul .u8 a b=some (.int .u8 ((BitVec.ofInt 8 a*BitVec.ofInt 8 b).toNat:Int)):=mulU rfl a b
theorem qeb (a b:Int)(h:0<=b):zbz .shl .u8 a b=some (.int .u8 ((BitVec.ofInt 8 a<<<b.toNat).toNat:Int)):=shlU rfl a b h
theorem qea (x:BitVec 8)(b:Int)(h:0<=b):zbz .shr .u8 (x.toNat:Int) b=some (.int .u8 ((x>>>b.toNat).toNat:Int)):=shrU (k:=.u8) x b h
theorem qeu (a:Int):IntKind.wrap .u8 ((BitVec.ofInt (IntKind.bits .u8) (if IntKind.signed .u8 then -1 else IntKind.max .u8)^^^BitVec.ofInt (IntKind.bits .u8) a).toNat)=((~~~ BitVec.ofInt 8 a).toNat:Int):=notU rfl a
theorem z3f (a:Int):IntKind.wrap .u16 a=((BitVec.ofInt 16 a).toNat:Int):=zkj rfl a
theorem qc3 (a b:Int):zar .and .u16 a b=some (.int .u16 ((BitVec.ofInt 16 a&&&BitVec.ofInt 16 b).toNat:Int)):=andU rfl a b
theorem qeq (a b:Int):zar .or .u16 a b=some (.int .u16 ((BitVec.ofInt 16 a|||BitVec.ofInt 16 b).toNat:Int)):=orU rfl a b
theorem z8t (a b:Int):zar .xor .u16 a b=some (.int .u16 ((BitVec.ofInt 16 a^^^BitVec.ofInt 16 b).toNat:Int)):=xorU rfl a b
theorem qc7 (a b:Int):zar .add .u16 a b=some (.int .u16 ((BitVec.ofInt 16 a+BitVec.ofInt 16 b).toNat:Int)):=addU rfl a b
theorem z88 (a b:Int):zar .sub .u16 a b=some (.int .u16 ((BitVec.ofInt 16 a-BitVec.ofInt 16 b).toNat:Int)):=subU rfl a b
theorem qav (a b:Int):zar .mul .u16 a b=some (.int .u16 ((BitVec.ofInt 16 a*BitVec.ofInt 16 b).toNat:Int)):=mulU rfl a b
theorem z9t (a b:Int)(h:0<=b):zbz .shl .u16 a b=some (.int .u16 ((BitVec.ofInt 16 a<<<b.toNat).toNat:Int)):=shlU rfl a b h
theorem z9p (x:BitVec 16)(b:Int)(h:0<=b):zbz .shr .u16 (x.toNat:Int) b=some (.int .u16 ((x>>>b.toNat).toNat:Int)):=shrU (k:=.u16) x b h
theorem qan (a:Int):IntKind.wrap .u16 ((BitVec.ofInt (IntKind.bits .u16) (if IntKind.signed .u16 then -1 else IntKind.max .u16)^^^BitVec.ofInt (IntKind.bits .u16) a).toNat)=((~~~ BitVec.ofInt 16 a).toNat:Int):=notU rfl a
theorem z3e (a:Int):IntKind.wrap .u32 a=((BitVec.ofInt 32 a).toNat:Int):=zkj rfl a
theorem qc2 (a b:Int):zar .and .u32 a b=some (.int .u32 ((BitVec.ofInt 32 a&&&BitVec.ofInt 32 b).toNat:Int)):=andU rfl a b
theorem qep (a b:Int):zar .or .u32 a b=some (.int .u32 ((BitVec.ofInt 32 a|||BitVec.ofInt 32 b).toNat:Int)):=orU rfl a b
theorem z8s (a b:Int):zar .xor .u32 a b=some (.int .u32 ((BitVec.ofInt 32 a^^^BitVec.ofInt 32 b).toNat:Int)):=xorU rfl a b
theorem qc6 (a b:Int):zar .add .u32 a b=some (.int .u32 ((BitVec.ofInt 32 a+BitVec.ofInt 32 b).toNat:Int)):=addU rfl a b
theorem z87 (a b:Int):zar .sub .u32 a b=some (.int .u32 ((BitVec.ofInt 32 a-BitVec.ofInt 32 b).toNat:Int)):=subU rfl a b
theorem qau (a b:Int):zar .mul .u32 a b=some (.int .u32 ((BitVec.ofInt 32 a*BitVec.ofInt 32 b).toNat:Int)):=mulU rfl a b
theorem z9s (a b:Int)(h:0<=b):zbz .shl .u32 a b=some (.int .u32 ((BitVec.ofInt 32 a<<<b.toNat).toNat:Int)):=shlU rfl a b h
theorem z9o (x:BitVec 32)(b:Int)(h:0<=b):zbz .shr .u32 (x.toNat:Int) b=some (.int .u32 ((x>>>b.toNat).toNat:Int)):=shrU (k:=.u32) x b h
theorem qam (a:Int):IntKind.wrap .u32 ((BitVec.ofInt (IntKind.bits .u32) (if IntKind.signed .u32 then -1 else IntKind.max .u32)^^^BitVec.ofInt (IntKind.bits .u32) a).toNat)=((~~~ BitVec.ofInt 32 a).toNat:Int):=notU rfl a
theorem zod (a:Int):IntKind.wrap .u64 a=((BitVec.ofInt 64 a).toNat:Int):=zkj rfl a
theorem qc1 (a b:Int):zar .and .u64 a b=some (.int .u64 ((BitVec.ofInt 64 a&&&BitVec.ofInt 64 b).toNat:Int)):=andU rfl a b
theorem qeo (a b:Int):zar .or .u64 a b=some (.int .u64 ((BitVec.ofInt 64 a|||BitVec.ofInt 64 b).toNat:Int)):=orU rfl a b
theorem z8r (a b:Int):zar .xor .u64 a b=some (.int .u64 ((BitVec.ofInt 64 a^^^BitVec.ofInt 64 b).toNat:Int)):=xorU rfl a b
theorem qc5 (a b:Int):zar .add .u64 a b=some (.int .u64 ((BitVec.ofInt 64 a+BitVec.ofInt 64 b).toNat:Int)):=addU rfl a b
theorem z86 (a b:Int):zar .sub .u64 a b=some (.int .u64 ((BitVec.ofInt 64 a-BitVec.ofInt 64 b).toNat:Int)):=subU rfl a b
theorem qat (a b:Int):zar .mul .u64 a b=some (.int .u64 ((BitVec.ofInt 64 a*BitVec.ofInt 64 b).toNat:Int)):=mulU rfl a b
theorem z9r (a b:Int)(h:0<=b):zbz .shl .u64 a b=some (.int .u64 ((BitVec.ofInt 64 a<<<b.toNat).toNat:Int)):=shlU rfl a b h
theorem z9n (x:BitVec 64)(b:Int)(h:0<=b):zbz .shr .u64 (x.toNat:Int) b=some (.int .u64 ((x>>>b.toNat).toNat:Int)):=shrU (k:=.u64) x b h
theorem zs3 (a:Int):IntKind.wrap .u64 ((BitVec.ofInt (IntKind.bits .u64) (if IntKind.signed .u64 then -1 else IntKind.max .u64)^^^BitVec.ofInt (IntKind.bits .u64) a).toNat)=((~~~ BitVec.ofInt 64 a).toNat:Int):=notU rfl a
theorem zax {a:Int}(h1:-9223372036854775808<=a)(h2:a<=9223372036854775807):IntKind.wrap .i64 a=a:=by
 simp only[IntKind.wrap,IntKind.bits,IntKind.signed,wB]
 simp only[wV,Int.reducePow]
 split<;>simp_all<;>omega
theorem zhr (x:BitVec 64):IntKind.wrap .i64 (x.toNat:Int)=x.toInt:=by
 simp only[IntKind.wrap,IntKind.bits,IntKind.signed,wB,wK]
 have:=x.isLt
 simp only[wV,Int.reducePow]
 split<;>simp_all<;>omega
theorem zfd {w:Nat}(hw:w<=64)(x:BitVec 64):BitVec.ofInt w x.toInt=x.setWidth w:=by
 apply wE
 rw[BitVec.toNat_setWidth,wH,wK]
 have hd:((2:Nat)^w) ∣ 2^64:=Nat.pow_dvd_pow 2 hw
 obtain⟨c,hc⟩:=hd
 have e:((2^64:Nat):Int)=((2^w:Nat):Int)*(c:Int):=by rw[hc];exact Int.natCast_mul _ _
 split
 . rw[<-wQ];rfl
 . rw[e,Int.sub_mul_emod_self_left,<-wQ];rfl
theorem sw8 (x:BitVec 64):BitVec.ofInt 8 x.toInt=x.setWidth 8:=zfd (by omega) x
theorem sw16 (x:BitVec 64):BitVec.ofInt 16 x.toInt=x.setWidth 16:=zfd (by omega) x
theorem sw32 (x:BitVec 64):BitVec.ofInt 32 x.toInt=x.setWidth 32:=zfd (by omega) x
theorem sw64 (x:BitVec 64):BitVec.ofInt 64 x.toInt=x:=BitVec.ofInt_toInt
theorem qc4 (a b:Int):zar .and .i64 a b=some (.int .i64 (BitVec.ofInt 64 a&&&BitVec.ofInt 64 b).toInt):=by
 simp only[zar];rw[show IntKind.bits .i64=64 from rfl,zhr]
theorem zmx (a:Int):IntKind.wrap .i64 a=(BitVec.ofInt 64 a).toInt:=by
 rw[<-zhr,<-zn2]
 simp only[IntKind.wrap,IntKind.bits,Int.emod_emod]
 rfl
theorem z9q (x:BitVec 64)(b:Int)(h:0<=b):zbz .shr .i64 x.toInt b=some (.int .i64 (x.sshiftRight b.toNat).toInt):=by
 have h':¬b<0:=by omega
 simp only[zbz,h',if_false,BitVec.toInt_sshiftRight,IntKind.bits]
 congr 2
 rw[Int.shiftRight_eq_div_pow,wL _ (wR (wP (by omega)))]
 rcases wY b.toNat 64 with hb|hb
 . rw[wT hb];simp
 . rw[wS hb]
   have h1:=x.toInt_lt
   have h2:=x.le_toInt
   have h3:(2:Nat)^64<=2^b.toNat:=wU (by omega) hb
   have h4:((2:Nat)^b.toNat:Int)=(2:Int)^b.toNat:=by simp
   by_cases hx:0<=x.toInt
   . rw[wO hx (by omega),wO hx (by omega)]
   . have e1:x.toInt/(2:Int)^64=-1:=by omega
     have e2:x.toInt/(((2:Nat)^b.toNat:Nat):Int)=-1:=by
      apply Int.ediv_eq_neg_one_of_neg_of_le<;>omega
     rw[e1,e2]
theorem qfc {n:Int}(h1:-9223372036854775808<=n)(h2:n<=9223372036854775807):∃x:BitVec 64,n=x.toInt :=
 ⟨BitVec.ofInt 64 n,by rw[<-zmx,zax h1 h2]⟩
theorem qcv (x:BitVec 64)(n:Nat)(h:n<2^64):((x.toNat:Int)==(n:Int))=(x==BitVec.ofNat 64 n):=by
 rw[Bool.eq_iff_iff,beq_iff_eq,beq_iff_eq,Int.natCast_inj]
 constructor
 . intro e;apply wE;rw[wG,wW h,e]
 . intro e;rw[e,wG,wW h]
theorem qcw (x:BitVec 64):((x.toNat:Int)==1)=(x==1#64):=qcv x 1 (by omega)
theorem zt1 (n m:Nat):((n:Int)<(no_index (OfNat.ofNat m:Int)))=(n<@OfNat.ofNat Nat m (instOfNatNat m)):=by
 apply propext;exact wM
theorem zt2 (n m:Nat):((n:Int)<=(no_index (OfNat.ofNat m:Int)))=(n<=@OfNat.ofNat Nat m (instOfNatNat m)):=by
 apply propext;exact wN
theorem zs7 (n m:Nat):((no_index (OfNat.ofNat m:Int))<(n:Int))=(@OfNat.ofNat Nat m (instOfNatNat m)<n):=by
 apply propext;exact wM
theorem zs8 (n m:Nat):((no_index (OfNat.ofNat m:Int))<=(n:Int))=(@OfNat.ofNat Nat m (instOfNatNat m)<=n):=by
 apply propext;exact wN
theorem qg6 (k:IntKind)(a b:Int):zar .eql k a b=some (.bool (a==b)):=rfl
theorem qg1 (k:IntKind)(a b:Int):zar .neq k a b=some (.bool (a != b)):=rfl
theorem qg2 (k:IntKind)(a b:Int):zar .lss k a b=some (.bool (a<b)):=rfl
theorem qg3 (k:IntKind)(a b:Int):zar .leq k a b=some (.bool (a<=b)):=rfl
theorem qg4 (k:IntKind)(a b:Int):zar .gtr k a b=some (.bool (a>b)):=rfl
theorem qg5 (k:IntKind)(a b:Int):zar .geq k a b=some (.bool (a>=b)):=rfl
theorem z7p (a b:Int):zar .add .i64 a b=some (.int .i64 (IntKind.wrap .i64 (a+b))):=rfl
theorem z7n (a b:Int):zar .sub .i64 a b=some (.int .i64 (IntKind.wrap .i64 (a-b))):=rfl
theorem z7o (a b:Int):zar .mul .i64 a b=some (.int .i64 (IntKind.wrap .i64 (a*b))):=rfl
theorem qgy (a b:List UInt8):zn8 .eql a b=some (.bool (a==b)):=rfl
theorem qgx (a b:List UInt8):zn8 .neq a b=some (.bool (!(a==b))):=rfl
theorem qgz {a b:List UInt8}(h:a.length+b.length<=LIM):zn8 .add a b=some (.str (a++b)):=by simp[zn8,h]
theorem zab (l:List UInt8):(zac l).length=l.length:=by simp[zac]
theorem zkf (l:List UInt8):(zac l).take l.length=zac l:=by rw[<-zab,w0]
theorem zh6 {l:List UInt8}{i:Nat}(h:i<l.length):(zac l)[i]? =some (.int .u8 (l[i].toBitVec.toNat:Int)):=by
 rw[zac,List.getElem?_map,List.getElem?_eq_getElem h];rfl
theorem zgz :∀(l:List UInt8),zg0 (zac l)=some l
 | []=>rfl
 | b::l=>by
   have e:zac (b::l)= .int .u8 b.toNat::zac l:=rfl
   rw[e,zg0,byteOf,zgz l]
   simp
end Go.Ev
namespace Go.Ev
open Go
theorem zz8 {hp hp':Hp}{j k n:Nat}{sh:Sh}:zin hp hp' j (.sl k [] 0 n) (.own sh)=(match hp.get k with
  | some (.grow sh' els)=>if Sh.beq sh sh'&&decide (n=els.length)then some (.sl (20000+j) [] 0 n,[.grow sh els])else none
  | _=>none):=rfl
theorem zwm {k:IntKind}{n:Int}:(AV.int k n).scalar=true:=rfl
theorem zsh {b:Bool}:(AV.bool b).scalar=true:=rfl
theorem zwj {b:List UInt8}:(AV.str b).scalar=true:=rfl
theorem zwl {b:Bool}{sh:Sh}{l:List AV}:(AV.lst b sh l).scalar=true:=rfl
theorem zzg {k:Nat}{p:List Nat}{a b:Nat}:(AV.sl k p a b).scalar=true:=rfl
theorem zwk {k:Nat}{p:List Nat}:(AV.ptr k p).scalar=true:=rfl
theorem zwn {l:List AV}:(AV.agg l).scalar=false:=rfl
section
variable {hp :Hp} {n:Nat}
theorem z0p {k:IntKind}{x:Int}:za1 hp n (.int k x)=some (.int k x):=by cases n<;>rfl
theorem zw3 {b:Bool}:za1 hp n (.bool b)=some (.bool b):=by cases n<;>rfl
theorem z0m {b:List UInt8}:za1 hp n (.str b)=some (.str b):=by cases n<;>rfl
theorem qa9 {v:Value}:za1 hp n (.s v)=some (.s v):=by cases n<;>rfl
theorem z0q {l:List AV}:za1 hp n (.agg l)=some (.agg l):=by cases n<;>rfl
theorem z0o {b:Bool}{sh:Sh}{l:List AV}:za1 hp n (.lst b sh l)=some (.lst b sh l):=by cases n<;>rfl
theorem z43 {sh:Sh}{a:AV}:za1 hp n (.cp sh a)=some (.cp sh a):=by cases n<;>rfl
theorem z41 {k:Nat}{p:List Nat}{off len:Nat}:za1 hp (n+1) (.sl k p off len)=(zbp hp (.sl k p off len)).map fun c=>.lst false c.1 c.2:=rfl
def ptrK (hp:Hp)(n:Nat):Option Sh->Option AV->Option AV
 | some s,some x=>(za1 hp n x).bind fun y=>if y.plain then some (.cp s y)else none
 | _,_=>none
def ptrO (hp:Hp)(n:Nat)(p:List Nat):Option OB->Option AV
 | some (.fix sh b)=>ptrK hp n (sh.sub p) (b.nav p)
 | _=>none
theorem z0n {k:Nat}{p:List Nat}:za1 hp (n+1) (.ptr k p)=ptrO hp n p (hp.get k):=by
 show(match hp.get k with|some (.fix sh b)=>_|_=>none)=_
 rcases hp.get k with _|_|_|_<;>first|rfl|(simp only[ptrO];rcases Sh.sub _ _ with _|_<;>rcases AV.nav _ _ with _|_<;>rfl)
def aggK :Option (List AV)->Option AV
 | some l=>if AV.plains l then some (.agg l)else none
 | none=>none
theorem zw4 {l:List AV}:za1 hp (n+1) (.aggR l)=aggK (mapO (za1 hp n) l):=by
 show((mapO (za1 hp n) l).bind fun l'=>if AV.plains l' then some (AV.agg l')else none)=_
 rcases mapO (za1 hp n) l with _|_<;>rfl
theorem z42 {f:Nat}{l:List AV}:za1 hp (n+1) (.fn f l)=(mapO (za1 hp n) l).map (.fn f):=rfl
def qgo :Option AV->Option (List AV)->Option (List AV)
 | some a,some l=>some (a::l)
 | _,_=>none
theorem z0j {f:AV->Option AV}{a:AV}{l:List AV}:mapO f (a::l)=qgo (f a) (mapO f l):=by
 rw[mapO];rcases f a with _|_
 . rfl
 . rcases mapO f l with _|_<;>rfl
theorem zyd {a:AV}{l:List AV}:qgo (some a) (some l)=some (a::l):=rfl
theorem z4z {f:AV->Option AV}:mapO f []=some []:=rfl
def retK (args:List AV)(hp:Hp)(d:Nat):Option (AV×Hp×List OB)->Option (AV×Hp)
 | some (r,[],[])=>if AV.plains args||zc9 r then some (r,[])else none
 | some (r,[],e::es)=>if AV.plains args||(zc9 r&&(e::es).all zfe)then(zcd hp d 0 (e::es)).map fun us=>(rn d r,us)else none
 | _=>none
def qcr (cl:Cl)(hp:Hp)(d f:Nat)(args:List AV):Option (List AV)->Option (AV×Hp)
 | some as=>retK args hp d (cl f as [])
 | none=>none
theorem z68 {cl:Cl}{d f:Nat}{args:List AV}:zc2 cl hp d f args .lend=qcr cl hp d f args (mapO (za1 hp 4) args):=by
 simp only[zc2]
 rcases mapO (za1 hp 4) args with _|as
 . rfl
 . simp only[wD,qcr]
   rcases cl f as []with _|⟨r,_|⟨_,_⟩,_|⟨_,_⟩⟩<;>rfl
theorem zyh {cl:Cl}{d f:Nat}{args as:List AV}:qcr cl hp d f args (some as)=retK args hp d (cl f as []):=rfl
theorem z39 {d:Nat}{args:List AV}{r:AV}:retK args hp d (some (r,[],[]))=if AV.plains args||zc9 r then some (r,[])else none:=rfl
theorem z4a {d:Nat}{args:List AV}{r:AV}{e:OB}{es:List OB}:retK args hp d (some (r,[],e::es))=if AV.plains args||(zc9 r&&(e::es).all zfe)then(zcd hp d 0 (e::es)).map fun us=>(rn d r,us)else none:=rfl
end
attribute [go_sem] zwm zsh zwj zwl zzg zwk zwn zz8 zfe
attribute [go_sem] z61 qb8 qca z19 qb9 z64 z2b z63 zae Opd.val Fr.get St.upd Fr.upd Hp.get zaq za2 AV.scalars AV.isAgg AV.kids Sh.sub Sh.agg AV.nav Sh.sizes Sh.size zp8 z21 zlw AV.mk AV.plains AV.plain AV.setNav
attribute [go_sem] zw0 zyp z0p zw3 z0m qa9 z0q z0o z43 z41 z0n ptrO ptrK zw4 aggK z42 z0j z4z zyd AV.known z0w ztn z6z z15 zx3 ztr zw2 zzb z3q zzc zt3 zyj zt4 z1z z5q z4c z4d z4b zsv zqy zww zye z1w zsu zqx z4v zs0 zwz zs1 z4r frOf vals
attribute [go_sem] zd7 zkn zgq bnds zbp sub Sh.beq Sh.beqs
attribute [go_sem] Option.map_some Option.map_none wD List.map List.cons_append List.nil_append List.headD List.tail List.take ite_true ite_false if_true if_false List.getElem?_cons_zero List.getElem?_cons_succ List.set_cons_zero List.set_cons_succ List.length_cons List.length_nil and_self and_true true_and Option.isNone_none Option.isNone_some Bool.and_true wB Bool.and_self decide_true List.replicate List.drop List.isEmpty_nil List.isEmpty_cons
attribute [go_sem] wM wN Int.natCast_nonneg qea qeb qhe qh8 qdf qhf qdu qev z8u qeu z9p z9t qc3 qeq z8t qc7 z88 qav z3f qan z9o z9s qc2 qep z8s qc6 z87 qau z3e qam z9n z9r qc1 qeo z8r qc5 z86 qat zod zs3 zdz wF BitVec.ofNat_toNat BitVec.setWidth_eq
attribute [go_sem] z68 zyh z39 z4a zc9 zd0 zfe zcd rn rns zda mvKs keyL zr5 qd9 rnMv rn1 rnFr rnHp sw Kp.keys Kp.owns Kp.ownSrc Kp.slotRefs zw6 zs9 AV.refs AV.refss List.append_nil List.contains_nil List.contains_cons List.all_nil wZ Bool.not_false wC Bool.or_true Bool.true_or Bool.or_false Bool.false_or
attribute [go_sem] zt1 zt2 zs7 zs8 ge_iff_le gt_iff_lt Nat.lt_irrefl Nat.le_refl Nat.zero_le Int.cast_ofNat_Int Int.natCast_zero Int.natCast_one decide_false decide_true qcw zab zgz sw8 sw16 sw32 sw64 zhr
attribute [go_sem] z2a zyf ztw zyc z02 z49 z62
attribute [go_sem] Nat.zero_add Nat.add_zero Int.toNat_natCast
attribute [go_sem] z17 z00 qbf qbi qbg qbh z01 zsy zwx z0z zpx z1f z1i z1g z1h beq_self_eq_true
attribute [go_sem] zkf w0
attribute [go_sem] List.length_append eq_self
attribute [go_sem] qgy qgx qgz qg6 qg1 qg2 qg3 qg4 qg5 z7p z7n z7o
theorem zx6 {cl:Cl}{hp:Hp}{d f:Nat}{args:List AV}:zc2 cl hp d f args .imp=if f<RB then zbo cl hp d f args (za0 hp (AV.refss args))else none:=by rw[zc2]
theorem ztf {hp hp':Hp}{d:Nat}{ks:List Nat}{r:AV}{es:List OB}:zvb hp d ks (some (r,hp',es))=if zbs hp' 0 ks.length then(layG hp ks d 0 es).map fun us=>(rA (dn ks d) r,zdm ks d hp'++us)else none:=rfl
def zjt (hp:Hp)(all:List Nat):List Nat->Bool
 | []=>true
 | k::l=>((hp.get k).isSome&&(zm1 (hp.get k)).all all.contains)&&zjt hp all l
def zl8 (hp:Hp)(all:List Nat):List Nat->List OB
 | []=>[]
 | k::l=>rOB (nm all) (getO hp k)::zl8 hp all l
def inL :List Nat->Bool
 | []=>true
 | k::l=>decide (SHK<=k)&&inL l
def outL :List Nat->Bool
 | []=>true
 | k::l=>decide (k<SHK)&&outL l
theorem zmt (hp:Hp)(all:List Nat):∀l:List Nat,zjt hp all l=l.all fun k=>(hp.get k).isSome&&(zm1 (hp.get k)).all all.contains
 | []=>rfl
 | k::l=>by rw[zjt,zmt hp all l,wZ]
theorem zl7 (hp:Hp)(all:List Nat):∀l:List Nat,zl8 hp all l=l.map fun k=>rOB (nm all) (getO hp k)
 | []=>rfl
 | k::l=>by rw[zl8,zl7 hp all l,List.map_cons]
theorem z07 :∀l:List Nat,inL l=l.all fun k=>decide (SHK<=k)
 | []=>rfl
 | k::l=>by rw[inL,z07 l,wZ]
theorem zuy :∀l:List Nat,outL l=l.all fun k=>decide (k<SHK)
 | []=>rfl
 | k::l=>by rw[outL,zuy l,wZ]
theorem zr1 (hp:Hp)(ks:List Nat):zds hp ks=zjt hp ks ks:=(zmt hp ks ks).symm
theorem qak (st:St)(hk:List Nat)(rs:List AV)(E:List Nat):zfl st hk rs E =
  if zjt st.hp (hk++E) (hk++E)&&(AV.refss rs).all (hk++E).contains&&zgq (hk++E)&&inL hk&&outL E&&decide (E.length<1000)&&AV.knowns rs then
   some (rAs (nm E) rs,ze5 st.hp E hk,zl8 st.hp E E)
  else none:=by
 rw[zfl,zr1,z07,zuy,zl7]
attribute [go_sem] zjt zl8 inL outL
attribute [go_sem] RB zx6 ztf zbo za0 zep zr1 zm1 ze0 getO idx up dn rA rAs rOB upHp zdm zbs layG SHK zv3 ksA bigs zrx zvm zmk z0k qak zck qab zcf ze5 nm zrf AV.knowns Option.getD_some List.getD_cons_zero List.getD_cons_succ Option.isSome_some Option.isSome_none
end Go.Ev
