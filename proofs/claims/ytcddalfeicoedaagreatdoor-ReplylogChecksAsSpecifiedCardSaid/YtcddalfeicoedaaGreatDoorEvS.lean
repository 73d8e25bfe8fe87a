/-
  For the evaluator's user: evaluation by simp, no lambda on the way. No condition.
-/
import Derived.Test.YtcddalfeicoedaaGreatDoorEvD
import Derived.Attr
set_option linter.unusedVariables false
set_option linter.unusedSimpArgs false
set_option linter.unusedSectionVars false
namespace Go.Ev
open Go
abbrev Its.o (d:Nat)(m:MOp)(r:Its):Its:=.op (some d) m r
abbrev Its.u (m:MOp)(r:Its):Its:=.op none m r
abbrev FO.o (d:Nat)(m:MOp):FO:=⟨some d,m,none⟩
abbrev FO.u (m:MOp):FO:=⟨none,m,none⟩
abbrev FO.w (d g:Nat)(b:Bool)(m:MOp):FO:=⟨some d,m,some (g,b)⟩
abbrev MOp.m (i:Nat):MOp:=.mov (.t i)
abbrev MOp.l (i:Nat):MOp:=.load false 1 (.t i)
abbrev MOp.L (n i:Nat):MOp:=.load true n (.t i)
abbrev MOp.a (i off x:Nat):MOp:=.faddr i off (.t x)
abbrev MOp.b (op:BinOp)(x y:Nat):MOp:=.bin op (.t x) (.t y)
abbrev MOp.S (n p x:Nat):MOp:=.store n (.t p) (.t x)
abbrev MOp.x (t i:Nat):MOp:=.extr (.t t) i
abbrev MOp.n (t:Nat):MOp:=.len false (.t t)
abbrev MOp.I (esz x i:Nat):MOp:=.iaddrS esz (.t x) (.t i)
abbrev MOp.q (a b:Nat):MOp:=.pick (.t a) (.t b) (.c (.bool false))
abbrev Opd.i (n:Int):Opd:=.c (.int .i64 n)
def seqK (gl:Gl)(cl:Cl)(b:MC):Option (Ex×St)->Option (Ex×St)
 | some (.norm,st)=>evC gl cl b st
 | r=>r
def blockK (id:Nat):Option (Ex×St)->Option (Ex×St)
 | some (e,st)=>some (if e= .exit id then .norm else e,st)
 | none=>none
def keptK (ks:List Kp):Option (Ex×St)->Option (Ex×St)
 | some (.norm,st)=>(zc6 ks st).map fun st=>(.norm,st)
 | r=>r
def normK :Option St->Option (Ex×St)
 | some st=>some (.norm,st)
 | none=>none
def itsK (gl:Gl)(cl:Cl)(d:Option Nat)(rest:Its)(st:St):Option (AV×Hp)->Option St
 | some (v,us)=>zcs gl cl rest (st.upd d v us)
 | none=>none
def iteK (gl:Gl)(cl:Cl)(lo hi d:Nat)(rest:Its)(st:St):Option AV->Option St
 | some x=>zcs gl cl rest {fr:=.set d x::.clr lo hi::st.fr,hp:=st.hp}
 | none=>none
def fnK (fd:Fd):Option (Ex×St)->Option (AV×Hp×List OB)
 | some (.norm,st)|some (.ret,st)=>(zgn st fd.res fd.pk).map fun z=>(match z.1 with|[a]=>a|l=>.tup l,[],z.2)
 | _=>none
section
variable {gl :Gl} {cl:Cl} {st:St}
theorem evC_skip :evC gl cl .skip st=some (.norm,st):=rfl
theorem evC_ret :evC gl cl .ret st=some (.ret,st):=rfl
theorem evC_exit {i:Nat}:evC gl cl (.exit i) st=some (.exit i,st):=rfl
theorem evC_seq {a b:MC}:evC gl cl (.seq a b) st=seqK gl cl b (evC gl cl a st):=by
 rw[evC];rcases evC gl cl a st with _|⟨_|_|_,_⟩<;>rfl
theorem seqK_norm {b:MC}:seqK gl cl b (some (.norm,st))=evC gl cl b st:=by rw[seqK]
theorem seqK_ret {b:MC}:seqK gl cl b (some (.ret,st))=some (.ret,st):=rfl
theorem seqK_exit {b:MC}{i:Nat}:seqK gl cl b (some (.exit i,st))=some (.exit i,st):=rfl
theorem evC_block {i:Nat}{b:MC}:evC gl cl (.block i b) st=blockK i (evC gl cl b st):=by
 rw[evC];rcases evC gl cl b st with _|⟨_,_⟩<;>rfl
theorem blockK_norm {i:Nat}:blockK i (some (.norm,st))=some (.norm,st):=rfl
theorem blockK_ret {i:Nat}:blockK i (some (.ret,st))=some (.ret,st):=rfl
theorem blockK_exit {i j:Nat}:blockK i (some (.exit j,st))=some (if j=i then .norm else .exit j,st):=by simp[blockK]
theorem evC_kept {ks:List Kp}{b:MC}:evC gl cl (.kept ks b) st=keptK ks (evC gl cl b st):=by
 rw[evC];rcases evC gl cl b st with _|⟨_|_|_,_⟩<;>rfl
theorem evC_reg {i:Its}:evC gl cl (.reg i) st=normK (zcs gl cl i st):=by rw[evC];cases zcs gl cl i st<;>rfl
theorem normK_some :normK (some st)=some (.norm,st):=rfl
theorem evIts_nil :zcs gl cl .nil st=some st:=rfl
theorem evIts_op {d:Option Nat}{m:MOp}{r:Its}:zcs gl cl (.op d m r) st=itsK gl cl d r st (zae gl cl st d m):=by
 rw[zcs];rcases zae gl cl st d m with _|⟨_,_⟩<;>rfl
theorem itsK_some {d:Option Nat}{r:Its}{v:AV}{us:Hp}:itsK gl cl d r st (some (v,us))=zcs gl cl r (st.upd d v us):=by rw[itsK]
end
def zb3 (gl:Gl)(cl:Cl):List FO->St->Option St
 | [],st=>some st
 | o::l,st =>
   match o.g with
   | none=>(zae gl cl st o.d o.m).bind fun r=>zb3 gl cl l (st.upd o.d r.1 r.2)
   | some (c,want) =>
     match st.fr.get c with
     | .bool t=>if t=want then(zae gl cl st o.d o.m).bind fun r=>zb3 gl cl l (st.upd o.d r.1 r.2)else zb3 gl cl l (st.upd o.d (.tup []) [])
     | .tup []=>zb3 gl cl l (st.upd o.d (.tup []) [])
     | _=>none
def flat0K (gl:Gl)(cl:Cl)(d:Option Nat)(l:List FO)(st:St):Option (AV×Hp)->Option St
 | some (v,us)=>zb3 gl cl l (st.upd d v us)
 | none=>none
section
variable {gl :Gl} {cl:Cl} {st:St}
theorem zjr :∀{l:List FO} {st:St},(zbt gl cl l st).map (·.1)=zb3 gl cl l st
 | [],st=>rfl
 | o::l,st=>by
   have ih:=fun st=>zjr (l:=l) (st:=st)
   obtain⟨d,m,g⟩:=o
   cases g with
   | none=>simp only[zbt,zb3];cases zae gl cl st d m<;>simp[<-ih,Function.comp_def]
   | some p =>
     obtain⟨c,want⟩:=p
     simp only[zbt,zb3]
     cases st.fr.get c with
     | bool t=>by_cases h:t=want<;>simp only[h,if_true,if_false]<;>first|(cases zae gl cl st d m<;>simp[<-ih,Function.comp_def];done)|simp[<-ih,Function.comp_def]
     | tup l=>cases l<;>simp[<-ih,Function.comp_def]
     | _=>rfl
theorem evC_draw0 {l:List FO}:evC gl cl (.draw l []) st=normK (zb3 gl cl l st):=by
 rw[evC,<-zjr];rcases zbt gl cl l st with _|⟨_,_⟩<;>rfl
theorem evFlat0_nil :zb3 gl cl [] st=some st:=rfl
theorem evFlat0_op {d:Option Nat}{m:MOp}{l:List FO}:zb3 gl cl (⟨d,m,none⟩::l) st=flat0K gl cl d l st (zae gl cl st d m):=by
 rw[zb3];rcases zae gl cl st d m with _|⟨_,_⟩<;>rfl
theorem flat0K_some {d:Option Nat}{l:List FO}{v:AV}{us:Hp}:flat0K gl cl d l st (some (v,us))=zb3 gl cl l (st.upd d v us):=by rw[flat0K]
end
theorem evFn_eq {gl:Gl}{cl:Cl}{fd:Fd}{args:List AV}(hg:zjn fd.pk=false):evFn gl cl fd args []=fnK fd (evC gl cl fd.body {fr:=frOf 0 args,hp:=[]}):=by
 rw[evFn,hg];simp only[Bool.false_eq_true,if_false];rcases evC gl cl fd.body _ with _|⟨_|_|_,_⟩<;>rfl
theorem call_eq {gl:Gl}{tab:Nat->Option Fd}{n f:Nat}{args:List AV}{fd:Fd}(h:tab f=some fd)(hg:zjn fd.pk=false)(hv:fd.giv=none:=by rfl):call gl tab (n+1) f args []=fnK fd (evC gl (call gl tab n) fd.body {fr:=frOf 0 args,hp:=[]}):=by
 rw[call,h];simp only[Option.bind_some,hv];exact evFn_eq hg
theorem zk3 {gl:Gl}{tab:Nat->Option Fd}{n f:Nat}{args:List AV}{imps:Hp}{fd:Fd}{g}(h:tab f=some fd)(hv:fd.giv=some g:=by rfl):call gl tab (n+1) f args imps=g gl (call gl tab n) args imps:=by
 rw[call,h];simp only[Option.bind_some,hv]
theorem iter_step {f:St->Option (Ex×St)}{ks:List Kp}{n:Nat}{st st1 st2:St}(h:zc6 ks st=some st1)(hf:f st1=some (.norm,st2)):iter f ks (n+1) st=iter f ks n st2:=by
 rw[iter,h];simp[hf]
theorem zky {f:St->Option (Ex×St)}{ks:List Kp}{n:Nat}{st st1 st2:St}{e:Ex}(h:zc6 ks st=some st1)(hf:f st1=some (e,st2))(he:e≠.norm):iter f ks (n+1) st=some (e,st2):=by
 rw[iter,h];cases e<;>simp_all
theorem iter_for {f:St->Option (Ex×St)}{ks:List Kp}(S:Nat->St)(N:Nat){st out:St}{e:Ex}(hN:N<LF)
  (h0:zc6 ks st=some (S 0)) (hs:∀i,i<N->∃st2,f (S i)=some (.norm,st2)/\zc6 ks st2=some (S (i+1))) (he:f (S N)=some (e,out)) (hne:e≠.norm) :
  iter f ks LF st=some (e,out):=by
 have key:∀(d i n:Nat) (st:St),i+d=N->d<n->zc6 ks st=some (S i)->iter f ks n st=some (e,out):=by
  intro d
  induction d with
  | zero =>
    intro i n st hi hn hc
    obtain⟨n,rfl⟩:∃m,n=m+1:=⟨n-1,by omega⟩
    have:i=N:=by omega
    subst this
    exact zky hc he hne
  | succ d ih =>
    intro i n st hi hn hc
    obtain⟨n,rfl⟩:∃m,n=m+1:=⟨n-1,by omega⟩
    obtain⟨st2,h1,h2⟩:=hs i (by omega)
    rw[iter_step hc h1]
    exact ih (i+1) n st2 (by omega) (by omega) h2
 exact key N 0 LF st (by omega) hN h0
end Go.Ev
namespace Go.Ev
open Go
def finK (res:List ResD)(pk:List Pk):Option (Ex×St)->Option (AV×Hp×List OB)
 | some (.norm,st)|some (.ret,st)=>(zgn st res pk).map fun z=>(match z.1 with|[a]=>a|l=>.tup l,[],z.2)
 | _=>none
theorem zad {gl:Gl}{tab:Nat->Option Fd}{n f:Nat}{args:List AV}{fd:Fd}(h:tab f=some fd)(hg:zjn fd.pk=false:=by rfl)(hv:fd.giv=none:=by rfl):call gl tab (n+1) f args []=finK fd.res fd.pk (evC gl (call gl tab n) fd.body {fr:=frOf 0 args,hp:=[]}):=by
 rw[call_eq h hg hv];rcases evC gl (call gl tab n) fd.body _ with _|⟨_|_|_,_⟩<;>rfl
def resK :Option (List AV×List OB)->Option (AV×Hp×List OB)
 | some ([a],es)=>some (a,[],es)
 | some (l,es)=>some (.tup l,[],es)
 | none=>none
theorem finK_norm {res:List ResD}{pk:List Pk}{st:St}:finK res pk (some (.norm,st))=resK (zgn st res pk):=by
 simp only[finK];rcases zgn st res pk with _|⟨_|⟨a,_|⟨b,l⟩⟩,es⟩<;>rfl
theorem finK_ret {res:List ResD}{pk:List Pk}{st:St}:finK res pk (some (.ret,st))=resK (zgn st res pk):=by
 simp only[finK];rcases zgn st res pk with _|⟨_|⟨a,_|⟨b,l⟩⟩,es⟩<;>rfl
theorem resK_one {a:AV}{es:List OB}:resK (some ([a],es))=some (a,[],es):=rfl
theorem resK_nil {es:List OB}:resK (some ([],es))=some (.tup [],[],es):=rfl
theorem resK_two {a b:AV}{l:List AV}{es:List OB}:resK (some (a::b::l,es))=some (.tup (a::b::l),[],es):=rfl
def consK (a:AV):Option (List AV)->Option (List AV)
 | some l=>some (a::l)
 | none=>none
def readK (st:St)(rs:List ResD):Option AV->Option (List AV)
 | some a=>consK a (zbd st rs)
 | none=>none
theorem readAll_nil {st:St}:zbd st []=some []:=rfl
theorem readAll_cons {st:St}{r:ResD}{rs:List ResD}:zbd st (r::rs)=readK st rs (ze8 st r):=by
 rw[zbd];rcases ze8 st r with _|a
 . rfl
 . simp only[Option.bind_some,readK];rcases zbd st rs with _|l<;>rfl
theorem readK_some {st:St}{rs:List ResD}{a:AV}:readK st rs (some a)=consK a (zbd st rs):=rfl
theorem consK_some {a:AV}{l:List AV}:consK a (some l)=some (a::l):=rfl
def fstK :Option (AV×Hp)->Option AV
 | some q=>some q.1
 | none=>none
theorem fstK_some {a:AV}{us:Hp}:fstK (some (a,us))=some a:=rfl
theorem readRes_tmp {st:St}{t:Nat}:ze8 st (.tmp t)=some (st.fr.get t):=rfl
theorem readRes_cell {st:St}{t n:Nat}{ag:Bool}:ze8 st (.cell t ag n)=fstK (zae Gl.none (fun _ _ _=>none) st none (.load ag n (.t t))):=by
 rw[ze8];rcases zae _ _ st none _ with _|⟨a,b⟩<;>rfl
def packsK (st:St)(pks:List Pk):Option (List AV)->Option (List AV×List OB)
 | some rs=>if zgp (zd4 rs pks)then zea st.hp (zkn (zd4 rs pks)++st.hp) 0 rs pks else none
 | none=>none
theorem packs_eq {st:St}{res:List ResD}{pks:List Pk}:zgn st res pks=packsK st pks (zbd st res):=by
 rw[zgn];rcases zbd st res with _|rs<;>rfl
theorem packsK_some {st:St}{pks:List Pk}{rs:List AV}:packsK st pks (some rs)=if zgp (zd4 rs pks)then zea st.hp (zkn (zd4 rs pks)++st.hp) 0 rs pks else none:=rfl
def prK (hp hp':Hp)(j:Nat)(rs:List AV)(pks:List Pk):Option (AV×List OB)->Option (List AV×List OB)
 | some (a,es)=>(zea hp hp' (j+es.length) rs pks).map fun z=>(a::z.1,es++z.2)
 | none=>none
theorem packRs_nil {hp hp':Hp}{j:Nat}{pks:List Pk}:zea hp hp' j [] pks=some ([],[]):=by cases pks<;>rfl
theorem packRs_cons {hp hp':Hp}{j:Nat}{r:AV}{rs:List AV}{pks:List Pk}:zea hp hp' j (r::rs) pks=prK hp hp' j rs pks.tail (zis hp hp' j r (pks.headD .asis)):=by
 rw[zea];rcases zis hp hp' j r (pks.headD .asis)with _|⟨a,es⟩<;>rfl
theorem prK_some {hp hp':Hp}{j:Nat}{rs:List AV}{pks:List Pk}{a:AV}{es:List OB}:prK hp hp' j rs pks (some (a,es))=(zea hp hp' (j+es.length) rs pks).map fun z=>(a::z.1,es++z.2):=rfl
def asisK :Option AV->Option (AV×List OB)
 | some a=>if a.known then some (a,[])else none
 | none=>none
theorem pack1_asis {hp hp':Hp}{j:Nat}{r:AV}:zis hp hp' j r .asis=asisK (za0 hp' 4 r):=by
 rw[zis];rcases za0 hp' 4 r with _|a<;>rfl
theorem asisK_some {a:AV}:asisK (some a)=if a.known then some (a,[])else none:=rfl
end Go.Ev
namespace Go.Ev
open Go
theorem evC_loop {gl:Gl}{cl:Cl}{ks:List Kp}{b:MC}{st:St}:evC gl cl (.loop ks b) st=iter (evC gl cl b) ks LF st:=rfl
end Go.Ev
namespace Go.Ev
open Go
def zbm (ks:List Kp):Option (Ex×St)->Option St
 | some (.norm,st)=>zc6 ks st
 | _=>none
theorem contK_norm {ks:List Kp}{st:St}:zbm ks (some (.norm,st))=zc6 ks st:=rfl
def isEx :Option (Ex×St)->Bool
 | some (.exit _,_)=>true
 | some (.ret,_)=>true
 | _=>false
theorem isEx_exit {i:Nat}{st:St}:isEx (some (.exit i,st))=true:=rfl
theorem isEx_ret {st:St}:isEx (some (.ret,st))=true:=rfl
theorem zal {f:St->Option (Ex×St)}{ks:List Kp}(S:Nat->St)(N:Nat){st:St}(hN:N<LF)(h0:zc6 ks st=some (S 0))(hs:∀i,i<N->zbm ks (f (S i))=some (S (i+1)))(he:isEx (f (S N))=true) :
  iter f ks LF st=f (S N):=by
 cases h:f (S N)with
 | none=>rw[h]at he;cases he
 | some r =>
   obtain⟨e,out⟩:=r
   refine iter_for S N hN h0 (fun i hi=> ?_) h (by rw[h]at he;cases e<;>simp_all[isEx])
   have:=hs i hi
   unfold zbm at this
   split at this
   . rename_i st2 h2;exact⟨st2,h2,this⟩
   . cases this
end Go.Ev
namespace Go.Ev
open Go
def condK (gl:Gl)(cl:Cl)(a b:MC)(st:St):AV->Option (Ex×St)
 | .bool true=>evC gl cl a st
 | .bool false=>evC gl cl b st
 | _=>none
theorem evC_condK {gl:Gl}{cl:Cl}{c:Opd}{a b:MC}{st:St}:evC gl cl (.cond c a b) st=condK gl cl a b st (c.val gl st.fr):=by
 rw[evC];cases c.val gl st.fr<;>first|rfl|(rename_i t;cases t<;>rfl)
theorem condK_true {gl:Gl}{cl:Cl}{a b:MC}{st:St}:condK gl cl a b st (.bool true)=evC gl cl a st:=rfl
theorem condK_false {gl:Gl}{cl:Cl}{a b:MC}{st:St}:condK gl cl a b st (.bool false)=evC gl cl b st:=rfl
def plainK (x:AV):Option AV:=if x.plain then some x else none
def iteC (gl:Gl)(a:Opd):Option St->Option AV
 | some st1=>plainK (a.val gl st1.fr)
 | none=>none
def iteS (gl:Gl)(cl:Cl)(w t:Bool)(blk:Its)(a b:Opd)(st:St):Option AV :=
 if t=w then iteC gl (if w then a else b) (zcs gl cl blk st)else some ((if w then b else a).val gl st.fr)
def iteD (gl:Gl)(cl:Cl)(w:Bool)(blk:Its)(lo hi d:Nat)(a b:Opd)(rest:Its)(st:St):AV->Option St
 | .bool t=>iteK gl cl lo hi d rest st (iteS gl cl w t blk a b st)
 | _=>none
def zgw (gl:Gl)(cl:Cl)(d:Option Nat)(m:MOp)(w:Bool)(l:List FO)(st:St):AV->Option St
 | .bool t=>if t=w then flat0K gl cl d l st (zae gl cl st d m)else zb3 gl cl l (st.upd d (.tup []) [])
 | .tup []=>zb3 gl cl l (st.upd d (.tup []) [])
 | _=>none
section
variable {gl :Gl} {cl:Cl} {st:St}
theorem evIts_ite {c:Nat}{w:Bool}{blk:Its}{lo hi d:Nat}{a b:Opd}{rest:Its} :
  zcs gl cl (.ite c w blk lo hi d a b rest) st=iteD gl cl w blk lo hi d a b rest st (st.fr.get c):=by
 rw[zcs]
 cases st.fr.get c with
 | bool t =>
   simp only[iteD,iteS]
   split
   . cases w<;>(simp only[if_true,if_false,Bool.false_eq_true];cases zcs gl cl blk st with
      | none=>rfl
      | some st1=>simp only[Option.bind_some,iteC,plainK];split<;>rfl)
   . rfl
 | _=>rfl
theorem iteD_bool {t w:Bool}{blk:Its}{lo hi d:Nat}{a b:Opd}{rest:Its}:iteD gl cl w blk lo hi d a b rest st (.bool t)=iteK gl cl lo hi d rest st (iteS gl cl w t blk a b st):=rfl
theorem iteS_tt {blk:Its}{a b:Opd}:iteS gl cl true true blk a b st=iteC gl a (zcs gl cl blk st):=rfl
theorem iteS_ff {blk:Its}{a b:Opd}:iteS gl cl false false blk a b st=iteC gl b (zcs gl cl blk st):=rfl
theorem iteS_tf {blk:Its}{a b:Opd}:iteS gl cl true false blk a b st=some (b.val gl st.fr):=rfl
theorem iteS_ft {blk:Its}{a b:Opd}:iteS gl cl false true blk a b st=some (a.val gl st.fr):=rfl
theorem iteC_some {a:Opd}{st1:St}:iteC gl a (some st1)=plainK (a.val gl st1.fr):=rfl
theorem plainK_bool {b:Bool}:plainK (.bool b)=some (.bool b):=rfl
theorem plainK_int {k:IntKind}{n:Int}:plainK (.int k n)=some (.int k n):=rfl
theorem iteK_some {lo hi d:Nat}{rest:Its}{x:AV}:iteK gl cl lo hi d rest st (some x)=zcs gl cl rest {fr:=.set d x::.clr lo hi::st.fr,hp:=st.hp}:=rfl
theorem evFlat0_guard {d:Option Nat}{m:MOp}{c:Nat}{w:Bool}{l:List FO}:zb3 gl cl (⟨d,m,some (c,w)⟩::l) st=zgw gl cl d m w l st (st.fr.get c):=by
 rw[zb3]
 simp only
 generalize st.fr.get c=v
 cases v with
 | bool t =>
   simp only[zgw]
   by_cases h:t=w
   . simp only[h,if_true];rcases zae gl cl st d m with _|⟨_,_⟩<;>rfl
   . simp only[h,if_false]
 | tup l=>cases l<;>rfl
 | _=>rfl
theorem guardK_tt {d:Option Nat}{m:MOp}{l:List FO}:zgw gl cl d m true l st (.bool true)=flat0K gl cl d l st (zae gl cl st d m):=by rw[zgw,if_pos rfl]
theorem guardK_ff {d:Option Nat}{m:MOp}{l:List FO}:zgw gl cl d m false l st (.bool false)=flat0K gl cl d l st (zae gl cl st d m):=by rw[zgw,if_pos rfl]
theorem guardK_tf {d:Option Nat}{m:MOp}{l:List FO}:zgw gl cl d m true l st (.bool false)=zb3 gl cl l (st.upd d (.tup []) []):=by rw[zgw,if_neg (by decide)]
theorem guardK_ft {d:Option Nat}{m:MOp}{l:List FO}:zgw gl cl d m false l st (.bool true)=zb3 gl cl l (st.upd d (.tup []) []):=by rw[zgw,if_neg (by decide)]
end
end Go.Ev
namespace Go.Ev
open Go
def mapG :Option (List AV×Hp×List OB)->Option (AV×Hp×List OB)
 | some (l,hp,es)=>some (oneOr l,hp,es)
 | none=>none
def genK (st:St)(hk:List Nat):Option (List AV)->Option (AV×Hp×List OB)
 | some rs=>mapG (zfg st hk rs (zch st hk rs))
 | none=>none
def finG (res:List ResD)(hk:List Nat):Option (Ex×St)->Option (AV×Hp×List OB)
 | some (.norm,st)|some (.ret,st)=>genK st hk (zbd st res)
 | _=>none
theorem zax {gl:Gl}{tab:Nat->Option Fd}{n f:Nat}{args:List AV}{imps:Hp}{fd:Fd}(h:tab f=some fd)(hg:zjn fd.pk=true:=by rfl)(hm:mcLt fd.body=true:=by rfl)(hv:fd.giv=none:=by rfl) :
  call gl tab (n+1) f args imps=finG fd.res (zcb imps) (evC gl (call gl tab n) fd.body {fr:=frOf 0 args,hp:=imps}):=by
 have key:∀st:St,((zbd st fd.res).bind fun rs=>(zfg st (zcb imps) rs (zch st (zcb imps) rs)).map fun z=>(oneOr z.1,z.2.1,z.2.2))=genK st (zcb imps) (zbd st fd.res):=fun st=>by
  rcases zbd st fd.res with _|rs
  . rfl
  . simp only[Option.bind_some,genK]
    rcases zfg st (zcb imps) rs (zch st (zcb imps) rs)with _|⟨_,_,_⟩<;>rfl
 rw[call,h]
 simp only[Option.bind_some,hv,evFn,hg,hm,if_true,Bool.not_true,Bool.false_eq_true,if_false]
 rcases evC gl (call gl tab n) fd.body _ with _|⟨_|_|_,st⟩
 . rfl
 . exact key st
 . rfl
 . exact key st
theorem finG_norm {res:List ResD}{hk:List Nat}{st:St}:finG res hk (some (.norm,st))=genK st hk (zbd st res):=rfl
theorem finG_ret {res:List ResD}{hk:List Nat}{st:St}:finG res hk (some (.ret,st))=genK st hk (zbd st res):=rfl
theorem genK_some {st:St}{hk:List Nat}{rs:List AV}:genK st hk (some rs)=mapG (zfg st hk rs (zch st hk rs)):=rfl
theorem mapG_some {l:List AV}{hp:Hp}{es:List OB}:mapG (some (l,hp,es))=some (oneOr l,hp,es):=rfl
end Go.Ev
namespace Go.Ev
open Go
theorem emod_toNat (w:Nat)(a:Int):a%(2^w:Int)=((BitVec.ofInt w a).toNat:Int):=by
 rw[BitVec.toNat_ofInt]
 have h:(0:Int)<2^w:=Int.pow_pos (by omega)
 have h1:=Int.emod_nonneg a (Int.ne_of_gt h)
 have e:((2^w:Nat):Int)=(2:Int)^w:=by simp
 rw[e]
 exact(Int.toNat_of_nonneg h1).symm
theorem zdx {w:Nat}(x:BitVec w):BitVec.ofInt w (x.toNat:Int)=x:=by simp
theorem ofInt_subW (w:Nat)(a b:Int):BitVec.ofInt w (a-b)=BitVec.ofInt w a-BitVec.ofInt w b:=by
 rw[Int.sub_eq_add_neg,BitVec.ofInt_add,BitVec.ofInt_neg,BitVec.sub_eq_add_neg]
theorem zkk {k:IntKind}(hs:k.signed=false)(a:Int):k.wrap a=((BitVec.ofInt k.bits a).toNat:Int):=by
 rw[<-emod_toNat];simp[IntKind.wrap,hs]
section
variable {k :IntKind} (hs:k.signed=false)
include hs
theorem andU (a b:Int):zar .and k a b=some (.int k ((BitVec.ofInt k.bits a&&&BitVec.ofInt k.bits b).toNat:Int)):=by
 simp only[zar,zkk hs,zdx]
theorem orU (a b:Int):zar .or k a b=some (.int k ((BitVec.ofInt k.bits a|||BitVec.ofInt k.bits b).toNat:Int)):=by
 simp only[zar,zkk hs,zdx]
theorem xorU (a b:Int):zar .xor k a b=some (.int k ((BitVec.ofInt k.bits a^^^BitVec.ofInt k.bits b).toNat:Int)):=by
 simp only[zar,zkk hs,zdx]
theorem addU (a b:Int):zar .add k a b=some (.int k ((BitVec.ofInt k.bits a+BitVec.ofInt k.bits b).toNat:Int)):=by
 simp only[zar,zkk hs,BitVec.ofInt_add]
theorem subU (a b:Int):zar .sub k a b=some (.int k ((BitVec.ofInt k.bits a-BitVec.ofInt k.bits b).toNat:Int)):=by
 simp only[zar,zkk hs,ofInt_subW]
theorem mulU (a b:Int):zar .mul k a b=some (.int k ((BitVec.ofInt k.bits a*BitVec.ofInt k.bits b).toNat:Int)):=by
 simp only[zar,zkk hs,BitVec.ofInt_mul]
theorem shlU (a b:Int)(h:0<=b):zbw .shl k a b=some (.int k ((BitVec.ofInt k.bits a<<<b.toNat).toNat:Int)):=by
 have h':¬b<0:=by omega
 simp only[zbw,h',if_false,zkk hs]
 have e:BitVec.ofInt k.bits (a*2^min b.toNat k.bits)=BitVec.ofInt k.bits a<<<b.toNat:=by
  rw[BitVec.ofInt_mul]
  rcases Nat.lt_or_ge b.toNat k.bits with hb|hb
  . rw[Nat.min_eq_left (Nat.le_of_lt hb)]
    have:BitVec.ofInt k.bits (2^b.toNat)=BitVec.twoPow k.bits b.toNat:=by
     rw[show(2:Int)^b.toNat=((2^b.toNat:Nat):Int) by simp,BitVec.ofInt_natCast,BitVec.twoPow_eq]
     apply BitVec.eq_of_toNat_eq
     simp[Nat.shiftLeft_eq]
    rw[this,BitVec.mul_twoPow_eq_shiftLeft]
  . rw[Nat.min_eq_right hb,BitVec.shiftLeft_eq_zero hb]
    have:BitVec.ofInt k.bits (2^k.bits)=0#k.bits:=by
     rw[show(2:Int)^k.bits=((2^k.bits:Nat):Int) by simp,BitVec.ofInt_natCast]
     apply BitVec.eq_of_toNat_eq
     simp
    rw[this,BitVec.mul_zero]
 rw[e]
omit hs in
theorem shrU {k:IntKind}(x:BitVec k.bits)(b:Int)(h:0<=b):zbw .shr k (x.toNat:Int) b=some (.int k ((x>>>b.toNat).toNat:Int)):=by
 have h':¬b<0:=by omega
 simp only[zbw,h',if_false]
 have e:((x.toNat:Int)).fdiv (2^min b.toNat k.bits)=((x>>>b.toNat).toNat:Int):=by
  rw[BitVec.toNat_ushiftRight,Nat.shiftRight_eq_div_pow,Int.fdiv_eq_ediv_of_nonneg _ (Int.le_of_lt (Int.pow_pos (by omega)))]
  rw[show(2:Int)^min b.toNat k.bits=((2^min b.toNat k.bits:Nat):Int) by simp,<-Int.natCast_ediv]
  congr 1
  rcases Nat.le_total b.toNat k.bits with hb|hb
  . rw[Nat.min_eq_left hb]
  . rw[Nat.min_eq_right hb,Nat.div_eq_of_lt x.isLt,Nat.div_eq_of_lt (Nat.lt_of_lt_of_le x.isLt (Nat.pow_le_pow_right (by omega) hb))]
 rw[e]
theorem notU (a:Int):k.wrap ((BitVec.ofInt k.bits (if k.signed then -1 else k.max)^^^BitVec.ofInt k.bits a).toNat)=((~~~ BitVec.ofInt k.bits a).toNat:Int):=by
 rw[zkk hs,zdx]
 congr 2
 have:BitVec.ofInt k.bits (if k.signed then -1 else k.max)=BitVec.allOnes k.bits:=by
  rw[hs]
  simp only[Bool.false_eq_true,if_false,IntKind.max,hs]
  rw[ofInt_subW,show(2:Int)^k.bits=((2^k.bits:Nat):Int) by simp,BitVec.ofInt_natCast]
  have:BitVec.ofNat k.bits (2^k.bits)=0#k.bits:=by apply BitVec.eq_of_toNat_eq;simp
  rw[this,BitVec.zero_sub,<-BitVec.neg_one_eq_allOnes]
  rfl
 rw[this,BitVec.allOnes_xor]
end
theorem wrap_u8 (a:Int):IntKind.wrap .u8 a=((BitVec.ofInt 8 a).toNat:Int):=zkk rfl a
theorem and_u8 (a b:Int):zar .and .u8 a b=some (.int .u8 ((BitVec.ofInt 8 a&&&BitVec.ofInt 8 b).toNat:Int)):=andU rfl a b
theorem or_u8 (a b:Int):zar .or .u8 a b=some (.int .u8 ((BitVec.ofInt 8 a|||BitVec.ofInt 8 b).toNat:Int)):=orU rfl a b
theorem xor_u8 (a b:Int):zar .xor .u8 a b=some (.int .u8 ((BitVec.ofInt 8 a^^^BitVec.ofInt 8 b).toNat:Int)):=xorU rfl a b
theorem add_u8 (a b:Int):zar .add .u8 a b=some (.int .u8 ((BitVec.ofInt 8 a+BitVec.ofInt 8 b).toNat:Int)):=addU rfl a b
theorem sub_u8 (a b:Int):zar .sub .u8 a b=some (.int .u8 ((BitVec.ofInt 8 a-BitVec.ofInt 8 b).toNat:Int)):=subU rfl a b
theorem mul_u8 (a b:Int):zar .mul .u8 a b=some (.int .u8 ((BitVec.ofInt 8 a*BitVec.ofInt 8 b).toNat:Int)):=mulU rfl a b
theorem shl_u8 (a b:Int)(h:0<=b):zbw .shl .u8 a b=some (.int .u8 ((BitVec.ofInt 8 a<<<b.toNat).toNat:Int)):=shlU rfl a b h
theorem shr_u8 (x:BitVec 8)(b:Int)(h:0<=b):zbw .shr .u8 (x.toNat:Int) b=some (.int .u8 ((x>>>b.toNat).toNat:Int)):=shrU (k:=.u8) x b h
theorem not_u8 (a:Int):IntKind.wrap .u8 ((BitVec.ofInt (IntKind.bits .u8) (if IntKind.signed .u8 then -1 else IntKind.max .u8)^^^BitVec.ofInt (IntKind.bits .u8) a).toNat)=((~~~ BitVec.ofInt 8 a).toNat:Int):=notU rfl a
theorem wrap_u16 (a:Int):IntKind.wrap .u16 a=((BitVec.ofInt 16 a).toNat:Int):=zkk rfl a
theorem and_u16 (a b:Int):zar .and .u16 a b=some (.int .u16 ((BitVec.ofInt 16 a&&&BitVec.ofInt 16 b).toNat:Int)):=andU rfl a b
theorem or_u16 (a b:Int):zar .or .u16 a b=some (.int .u16 ((BitVec.ofInt 16 a|||BitVec.ofInt 16 b).toNat:Int)):=orU rfl a b
theorem xor_u16 (a b:Int):zar .xor .u16 a b=some (.int .u16 ((BitVec.ofInt 16 a^^^BitVec.ofInt 16 b).toNat:Int)):=xorU rfl a b
theorem add_u16 (a b:Int):zar .add .u16 a b=some (.int .u16 ((BitVec.ofInt 16 a+BitVec.ofInt 16 b).toNat:Int)):=addU rfl a b
theorem sub_u16 (a b:Int):zar .sub .u16 a b=some (.int .u16 ((BitVec.ofInt 16 a-BitVec.ofInt 16 b).toNat:Int)):=subU rfl a b
theorem mul_u16 (a b:Int):zar .mul .u16 a b=some (.int .u16 ((BitVec.ofInt 16 a*BitVec.ofInt 16 b).toNat:Int)):=mulU rfl a b
theorem shl_u16 (a b:Int)(h:0<=b):zbw .shl .u16 a b=some (.int .u16 ((BitVec.ofInt 16 a<<<b.toNat).toNat:Int)):=shlU rfl a b h
theorem shr_u16 (x:BitVec 16)(b:Int)(h:0<=b):zbw .shr .u16 (x.toNat:Int) b=some (.int .u16 ((x>>>b.toNat).toNat:Int)):=shrU (k:=.u16) x b h
theorem not_u16 (a:Int):IntKind.wrap .u16 ((BitVec.ofInt (IntKind.bits .u16) (if IntKind.signed .u16 then -1 else IntKind.max .u16)^^^BitVec.ofInt (IntKind.bits .u16) a).toNat)=((~~~ BitVec.ofInt 16 a).toNat:Int):=notU rfl a
theorem wrap_u32 (a:Int):IntKind.wrap .u32 a=((BitVec.ofInt 32 a).toNat:Int):=zkk rfl a
theorem and_u32 (a b:Int):zar .and .u32 a b=some (.int .u32 ((BitVec.ofInt 32 a&&&BitVec.ofInt 32 b).toNat:Int)):=andU rfl a b
theorem or_u32 (a b:Int):zar .or .u32 a b=some (.int .u32 ((BitVec.ofInt 32 a|||BitVec.ofInt 32 b).toNat:Int)):=orU rfl a b
theorem xor_u32 (a b:Int):zar .xor .u32 a b=some (.int .u32 ((BitVec.ofInt 32 a^^^BitVec.ofInt 32 b).toNat:Int)):=xorU rfl a b
theorem add_u32 (a b:Int):zar .add .u32 a b=some (.int .u32 ((BitVec.ofInt 32 a+BitVec.ofInt 32 b).toNat:Int)):=addU rfl a b
theorem sub_u32 (a b:Int):zar .sub .u32 a b=some (.int .u32 ((BitVec.ofInt 32 a-BitVec.ofInt 32 b).toNat:Int)):=subU rfl a b
theorem mul_u32 (a b:Int):zar .mul .u32 a b=some (.int .u32 ((BitVec.ofInt 32 a*BitVec.ofInt 32 b).toNat:Int)):=mulU rfl a b
theorem shl_u32 (a b:Int)(h:0<=b):zbw .shl .u32 a b=some (.int .u32 ((BitVec.ofInt 32 a<<<b.toNat).toNat:Int)):=shlU rfl a b h
theorem shr_u32 (x:BitVec 32)(b:Int)(h:0<=b):zbw .shr .u32 (x.toNat:Int) b=some (.int .u32 ((x>>>b.toNat).toNat:Int)):=shrU (k:=.u32) x b h
theorem not_u32 (a:Int):IntKind.wrap .u32 ((BitVec.ofInt (IntKind.bits .u32) (if IntKind.signed .u32 then -1 else IntKind.max .u32)^^^BitVec.ofInt (IntKind.bits .u32) a).toNat)=((~~~ BitVec.ofInt 32 a).toNat:Int):=notU rfl a
theorem wrap_u64 (a:Int):IntKind.wrap .u64 a=((BitVec.ofInt 64 a).toNat:Int):=zkk rfl a
theorem and_u64 (a b:Int):zar .and .u64 a b=some (.int .u64 ((BitVec.ofInt 64 a&&&BitVec.ofInt 64 b).toNat:Int)):=andU rfl a b
theorem or_u64 (a b:Int):zar .or .u64 a b=some (.int .u64 ((BitVec.ofInt 64 a|||BitVec.ofInt 64 b).toNat:Int)):=orU rfl a b
theorem xor_u64 (a b:Int):zar .xor .u64 a b=some (.int .u64 ((BitVec.ofInt 64 a^^^BitVec.ofInt 64 b).toNat:Int)):=xorU rfl a b
theorem add_u64 (a b:Int):zar .add .u64 a b=some (.int .u64 ((BitVec.ofInt 64 a+BitVec.ofInt 64 b).toNat:Int)):=addU rfl a b
theorem sub_u64 (a b:Int):zar .sub .u64 a b=some (.int .u64 ((BitVec.ofInt 64 a-BitVec.ofInt 64 b).toNat:Int)):=subU rfl a b
theorem mul_u64 (a b:Int):zar .mul .u64 a b=some (.int .u64 ((BitVec.ofInt 64 a*BitVec.ofInt 64 b).toNat:Int)):=mulU rfl a b
theorem shl_u64 (a b:Int)(h:0<=b):zbw .shl .u64 a b=some (.int .u64 ((BitVec.ofInt 64 a<<<b.toNat).toNat:Int)):=shlU rfl a b h
theorem shr_u64 (x:BitVec 64)(b:Int)(h:0<=b):zbw .shr .u64 (x.toNat:Int) b=some (.int .u64 ((x>>>b.toNat).toNat:Int)):=shrU (k:=.u64) x b h
theorem not_u64 (a:Int):IntKind.wrap .u64 ((BitVec.ofInt (IntKind.bits .u64) (if IntKind.signed .u64 then -1 else IntKind.max .u64)^^^BitVec.ofInt (IntKind.bits .u64) a).toNat)=((~~~ BitVec.ofInt 64 a).toNat:Int):=notU rfl a
theorem zaz {a:Int}(h1:-9223372036854775808<=a)(h2:a<=9223372036854775807):IntKind.wrap .i64 a=a:=by
 simp only[IntKind.wrap,IntKind.bits,IntKind.signed,Bool.true_and]
 simp only[Nat.add_one_sub_one,Int.reducePow]
 split<;>simp_all<;>omega
theorem zhz (x:BitVec 64):IntKind.wrap .i64 (x.toNat:Int)=x.toInt:=by
 simp only[IntKind.wrap,IntKind.bits,IntKind.signed,Bool.true_and,BitVec.toInt]
 have:=x.isLt
 simp only[Nat.add_one_sub_one,Int.reducePow]
 split<;>simp_all<;>omega
theorem ze9 {w:Nat}(hw:w<=64)(x:BitVec 64):BitVec.ofInt w x.toInt=x.setWidth w:=by
 apply BitVec.eq_of_toNat_eq
 rw[BitVec.toNat_setWidth,BitVec.toNat_ofInt,BitVec.toInt]
 have hd:((2:Nat)^w) ∣ 2^64:=Nat.pow_dvd_pow 2 hw
 obtain⟨c,hc⟩:=hd
 have e:((2^64:Nat):Int)=((2^w:Nat):Int)*(c:Int):=by rw[hc];exact Int.natCast_mul _ _
 split
 . rw[<-Int.natCast_emod];rfl
 . rw[e,Int.sub_mul_emod_self_left,<-Int.natCast_emod];rfl
theorem sw8 (x:BitVec 64):BitVec.ofInt 8 x.toInt=x.setWidth 8:=ze9 (by omega) x
theorem sw16 (x:BitVec 64):BitVec.ofInt 16 x.toInt=x.setWidth 16:=ze9 (by omega) x
theorem sw32 (x:BitVec 64):BitVec.ofInt 32 x.toInt=x.setWidth 32:=ze9 (by omega) x
theorem sw64 (x:BitVec 64):BitVec.ofInt 64 x.toInt=x:=BitVec.ofInt_toInt
theorem and_i64 (a b:Int):zar .and .i64 a b=some (.int .i64 (BitVec.ofInt 64 a&&&BitVec.ofInt 64 b).toInt):=by
 simp only[zar];rw[show IntKind.bits .i64=64 from rfl,zhz]
theorem wrap_i64_ofInt (a:Int):IntKind.wrap .i64 a=(BitVec.ofInt 64 a).toInt:=by
 rw[<-zhz,<-emod_toNat]
 simp only[IntKind.wrap,IntKind.bits,Int.emod_emod]
 rfl
theorem shr_i64 (x:BitVec 64)(b:Int)(h:0<=b):zbw .shr .i64 x.toInt b=some (.int .i64 (x.sshiftRight b.toNat).toInt):=by
 have h':¬b<0:=by omega
 simp only[zbw,h',if_false,BitVec.toInt_sshiftRight,IntKind.bits]
 congr 2
 rw[Int.shiftRight_eq_div_pow,Int.fdiv_eq_ediv_of_nonneg _ (Int.le_of_lt (Int.pow_pos (by omega)))]
 rcases Nat.le_total b.toNat 64 with hb|hb
 . rw[Nat.min_eq_left hb];simp
 . rw[Nat.min_eq_right hb]
   have h1:=x.toInt_lt
   have h2:=x.le_toInt
   have h3:(2:Nat)^64<=2^b.toNat:=Nat.pow_le_pow_right (by omega) hb
   have h4:((2:Nat)^b.toNat:Int)=(2:Int)^b.toNat:=by simp
   by_cases hx:0<=x.toInt
   . rw[Int.ediv_eq_zero_of_lt hx (by omega),Int.ediv_eq_zero_of_lt hx (by omega)]
   . have e1:x.toInt/(2:Int)^64=-1:=by omega
     have e2:x.toInt/(((2:Nat)^b.toNat:Nat):Int)=-1:=by
      apply Int.ediv_eq_neg_one_of_neg_of_le<;>omega
     rw[e1,e2]
theorem int_bv {n:Int}(h1:-9223372036854775808<=n)(h2:n<=9223372036854775807):∃x:BitVec 64,n=x.toInt :=
 ⟨BitVec.ofInt 64 n,by rw[<-wrap_i64_ofInt,zaz h1 h2]⟩
theorem beq_u64 (x:BitVec 64)(n:Nat)(h:n<2^64):((x.toNat:Int)==(n:Int))=(x==BitVec.ofNat 64 n):=by
 rw[Bool.eq_iff_iff,beq_iff_eq,beq_iff_eq,Int.natCast_inj]
 constructor
 . intro e;apply BitVec.eq_of_toNat_eq;rw[BitVec.toNat_ofNat,Nat.mod_eq_of_lt h,e]
 . intro e;rw[e,BitVec.toNat_ofNat,Nat.mod_eq_of_lt h]
theorem beq1_64 (x:BitVec 64):((x.toNat:Int)==1)=(x==1#64):=beq_u64 x 1 (by omega)
theorem cast_lt_lit (n m:Nat):((n:Int)<(no_index (OfNat.ofNat m:Int)))=(n<@OfNat.ofNat Nat m (instOfNatNat m)):=by
 apply propext;exact Int.ofNat_lt
theorem cast_le_lit (n m:Nat):((n:Int)<=(no_index (OfNat.ofNat m:Int)))=(n<=@OfNat.ofNat Nat m (instOfNatNat m)):=by
 apply propext;exact Int.ofNat_le
theorem lit_lt_cast (n m:Nat):((no_index (OfNat.ofNat m:Int))<(n:Int))=(@OfNat.ofNat Nat m (instOfNatNat m)<n):=by
 apply propext;exact Int.ofNat_lt
theorem lit_le_cast (n m:Nat):((no_index (OfNat.ofNat m:Int))<=(n:Int))=(@OfNat.ofNat Nat m (instOfNatNat m)<=n):=by
 apply propext;exact Int.ofNat_le
theorem bi_eql (k:IntKind)(a b:Int):zar .eql k a b=some (.bool (a==b)):=rfl
theorem bi_neq (k:IntKind)(a b:Int):zar .neq k a b=some (.bool (a != b)):=rfl
theorem bi_lss (k:IntKind)(a b:Int):zar .lss k a b=some (.bool (a<b)):=rfl
theorem bi_leq (k:IntKind)(a b:Int):zar .leq k a b=some (.bool (a<=b)):=rfl
theorem bi_gtr (k:IntKind)(a b:Int):zar .gtr k a b=some (.bool (a>b)):=rfl
theorem bi_geq (k:IntKind)(a b:Int):zar .geq k a b=some (.bool (a>=b)):=rfl
theorem bi_add64 (a b:Int):zar .add .i64 a b=some (.int .i64 (IntKind.wrap .i64 (a+b))):=rfl
theorem bi_sub64 (a b:Int):zar .sub .i64 a b=some (.int .i64 (IntKind.wrap .i64 (a-b))):=rfl
theorem bi_mul64 (a b:Int):zar .mul .i64 a b=some (.int .i64 (IntKind.wrap .i64 (a*b))):=rfl
theorem bs_eql (a b:List UInt8):binStr .eql a b=some (.bool (a==b)):=rfl
theorem bs_neq (a b:List UInt8):binStr .neq a b=some (.bool (!(a==b))):=rfl
theorem bs_add {a b:List UInt8}(h:a.length+b.length<=LIM):binStr .add a b=some (.str (a++b)):=by simp[binStr,h]
theorem zaa (l:List UInt8):(zac l).length=l.length:=by simp[zac]
theorem zkg (l:List UInt8):(zac l).take l.length=zac l:=by rw[<-zaa,List.take_length]
theorem zib {l:List UInt8}{i:Nat}(h:i<l.length):(zac l)[i]? =some (.int .u8 (l[i].toBitVec.toNat:Int)):=by
 rw[zac,List.getElem?_map,List.getElem?_eq_getElem h];rfl
theorem zg4 :∀(l:List UInt8),zg5 (zac l)=some l
 | []=>rfl
 | b::l=>by
   have e:zac (b::l)= .int .u8 b.toNat::zac l:=rfl
   rw[e,zg5,byteOf,zg4 l]
   simp
end Go.Ev
namespace Go.Ev
open Go
theorem pack1_own {hp hp':Hp}{j k n:Nat}{sh:Sh}:zis hp hp' j (.sl k [] 0 n) (.own sh)=(match hp.get k with
  | some (.grow sh' els)=>if Sh.beq sh sh'&&decide (n=els.length)then some (.sl (20000+j) [] 0 n,[.grow sh els])else none
  | _=>none):=rfl
theorem scalar_int {k:IntKind}{n:Int}:(AV.int k n).scalar=true:=rfl
theorem scalar_bool {b:Bool}:(AV.bool b).scalar=true:=rfl
theorem scalar_str {b:List UInt8}:(AV.str b).scalar=true:=rfl
theorem scalar_lst {b:Bool}{sh:Sh}{l:List AV}:(AV.lst b sh l).scalar=true:=rfl
theorem scalar_sl {k:Nat}{p:List Nat}{a b:Nat}:(AV.sl k p a b).scalar=true:=rfl
theorem scalar_ptr {k:Nat}{p:List Nat}:(AV.ptr k p).scalar=true:=rfl
theorem scalar_agg {l:List AV}:(AV.agg l).scalar=false:=rfl
section
variable {hp :Hp} {n:Nat}
theorem lendk_int {k:IntKind}{x:Int}:za0 hp n (.int k x)=some (.int k x):=by cases n<;>rfl
theorem lendk_bool {b:Bool}:za0 hp n (.bool b)=some (.bool b):=by cases n<;>rfl
theorem lendk_str {b:List UInt8}:za0 hp n (.str b)=some (.str b):=by cases n<;>rfl
theorem lendk_s {v:Value}:za0 hp n (.s v)=some (.s v):=by cases n<;>rfl
theorem lendk_agg {l:List AV}:za0 hp n (.agg l)=some (.agg l):=by cases n<;>rfl
theorem lendk_lst {b:Bool}{sh:Sh}{l:List AV}:za0 hp n (.lst b sh l)=some (.lst b sh l):=by cases n<;>rfl
theorem lendk_cp {sh:Sh}{a:AV}:za0 hp n (.cp sh a)=some (.cp sh a):=by cases n<;>rfl
theorem lendk_sl {k:Nat}{p:List Nat}{off len:Nat}:za0 hp (n+1) (.sl k p off len)=(zbk hp (.sl k p off len)).map fun c=>.lst false c.1 c.2:=rfl
def ptrK (hp:Hp)(n:Nat):Option Sh->Option AV->Option AV
 | some s,some x=>(za0 hp n x).bind fun y=>if y.plain then some (.cp s y)else none
 | _,_=>none
def ptrO (hp:Hp)(n:Nat)(p:List Nat):Option OB->Option AV
 | some (.fix sh b)=>ptrK hp n (sh.sub p) (b.nav p)
 | _=>none
theorem lendk_ptr {k:Nat}{p:List Nat}:za0 hp (n+1) (.ptr k p)=ptrO hp n p (hp.get k):=by
 show(match hp.get k with|some (.fix sh b)=>_|_=>none)=_
 rcases hp.get k with _|_|_|_<;>first|rfl|(simp only[ptrO];rcases Sh.sub _ _ with _|_<;>rcases AV.nav _ _ with _|_<;>rfl)
def aggK :Option (List AV)->Option AV
 | some l=>if AV.plains l then some (.agg l)else none
 | none=>none
theorem lendk_aggR {l:List AV}:za0 hp (n+1) (.aggR l)=aggK (mapO (za0 hp n) l):=by
 show((mapO (za0 hp n) l).bind fun l'=>if AV.plains l' then some (AV.agg l')else none)=_
 rcases mapO (za0 hp n) l with _|_<;>rfl
theorem lendk_fn {f:Nat}{l:List AV}:za0 hp (n+1) (.fn f l)=(mapO (za0 hp n) l).map (.fn f):=rfl
def consO :Option AV->Option (List AV)->Option (List AV)
 | some a,some l=>some (a::l)
 | _,_=>none
theorem mapO_cons {f:AV->Option AV}{a:AV}{l:List AV}:mapO f (a::l)=consO (f a) (mapO f l):=by
 rw[mapO];rcases f a with _|_
 . rfl
 . rcases mapO f l with _|_<;>rfl
theorem consO_some {a:AV}{l:List AV}:consO (some a) (some l)=some (a::l):=rfl
theorem mapO_nil {f:AV->Option AV}:mapO f []=some []:=rfl
def retK (args:List AV)(hp:Hp)(d:Nat):Option (AV×Hp×List OB)->Option (AV×Hp)
 | some (r,[],[])=>if AV.plains args||zc5 r then some (r,[])else none
 | some (r,[],e::es)=>if AV.plains args||(zc5 r&&(e::es).all zfa)then(zb9 hp d 0 (e::es)).map fun us=>(rn d r,us)else none
 | _=>none
def callK (cl:Cl)(hp:Hp)(d f:Nat)(args:List AV):Option (List AV)->Option (AV×Hp)
 | some as=>retK args hp d (cl f as [])
 | none=>none
theorem doCall_k {cl:Cl}{d f:Nat}{args:List AV}:zcw cl hp d f args .lend=callK cl hp d f args (mapO (za0 hp 4) args):=by
 simp only[zcw]
 rcases mapO (za0 hp 4) args with _|as
 . rfl
 . simp only[Option.bind_some,callK]
   rcases cl f as []with _|⟨r,_|⟨_,_⟩,_|⟨_,_⟩⟩<;>rfl
theorem callK_some {cl:Cl}{d f:Nat}{args as:List AV}:callK cl hp d f args (some as)=retK args hp d (cl f as []):=rfl
theorem retK_nil {d:Nat}{args:List AV}{r:AV}:retK args hp d (some (r,[],[]))=if AV.plains args||zc5 r then some (r,[])else none:=rfl
theorem retK_new {d:Nat}{args:List AV}{r:AV}{e:OB}{es:List OB}:retK args hp d (some (r,[],e::es))=if AV.plains args||(zc5 r&&(e::es).all zfa)then(zb9 hp d 0 (e::es)).map fun us=>(rn d r,us)else none:=rfl
end
attribute [go_sem] scalar_int scalar_bool scalar_str scalar_lst scalar_sl scalar_ptr scalar_agg pack1_own zfa
attribute [go_sem] evC_skip evC_seq evC_reg evC_draw0 evC_ret evC_exit evC_block evC_kept zae Opd.val Fr.get St.upd Fr.upd Hp.get zap zba AV.scalars AV.isAgg AV.kids Sh.sub Sh.agg AV.nav Sh.sizes Sh.size binAV binBl parts AV.mk AV.plains AV.plain AV.setNav
attribute [go_sem] pack1_asis asisK_some lendk_int lendk_bool lendk_str lendk_s lendk_agg lendk_lst lendk_cp lendk_sl lendk_ptr ptrO ptrK lendk_aggR aggK lendk_fn mapO_cons mapO_nil consO_some AV.known itsK_some flat0K_some evIts_op evIts_nil evFlat0_op evFlat0_nil normK_some seqK_norm seqK_ret seqK_exit blockK_norm blockK_ret blockK_exit finK_norm finK_ret resK_one resK_nil resK_two readAll_nil readAll_cons readK_some consK_some fstK_some readRes_tmp readRes_cell packs_eq packsK_some packRs_nil packRs_cons prK_some frOf vals
attribute [go_sem] zd4 zkn zgp bnds zbk sub Sh.beq Sh.beqs
attribute [go_sem] Option.map_some Option.map_none Option.bind_some List.map List.cons_append List.nil_append List.headD List.tail List.take ite_true ite_false if_true if_false List.getElem?_cons_zero List.getElem?_cons_succ List.set_cons_zero List.set_cons_succ List.length_cons List.length_nil and_self and_true true_and Option.isNone_none Option.isNone_some Bool.and_true Bool.true_and Bool.and_self decide_true List.replicate List.drop List.isEmpty_nil List.isEmpty_cons
attribute [go_sem] Int.ofNat_lt Int.ofNat_le Int.natCast_nonneg shr_u8 shl_u8 and_u8 or_u8 xor_u8 add_u8 sub_u8 mul_u8 wrap_u8 not_u8 shr_u16 shl_u16 and_u16 or_u16 xor_u16 add_u16 sub_u16 mul_u16 wrap_u16 not_u16 shr_u32 shl_u32 and_u32 or_u32 xor_u32 add_u32 sub_u32 mul_u32 wrap_u32 not_u32 shr_u64 shl_u64 and_u64 or_u64 xor_u64 add_u64 sub_u64 mul_u64 wrap_u64 not_u64 zdx BitVec.ofInt_natCast BitVec.ofNat_toNat BitVec.setWidth_eq
attribute [go_sem] doCall_k callK_some retK_nil retK_new zc5 zdy zfa zb9 rn rns zc6 mvKs keyL cellSl slKey rnMv rn1 rnFr rnHp sw Kp.keys Kp.owns Kp.ownSrc Kp.slotRefs keeps keep1 AV.refs AV.refss List.append_nil List.contains_nil List.contains_cons List.all_nil List.all_cons Bool.not_false Bool.not_true Bool.or_true Bool.true_or Bool.or_false Bool.false_or
attribute [go_sem] cast_lt_lit cast_le_lit lit_lt_cast lit_le_cast ge_iff_le gt_iff_lt Nat.lt_irrefl Nat.le_refl Nat.zero_le Int.cast_ofNat_Int Int.natCast_zero Int.natCast_one decide_false decide_true beq1_64 zaa zg4 sw8 sw16 sw32 sw64 zhz
attribute [go_sem] evC_condK condK_true condK_false contK_norm isEx_exit isEx_ret evC_loop
attribute [go_sem] Nat.zero_add Nat.add_zero Int.toNat_natCast
attribute [go_sem] evIts_ite iteD_bool iteS_tt iteS_ff iteS_tf iteS_ft iteC_some plainK_bool plainK_int iteK_some evFlat0_guard guardK_tt guardK_ff guardK_tf guardK_ft beq_self_eq_true
attribute [go_sem] zkg List.take_length
attribute [go_sem] List.length_append eq_self
attribute [go_sem] bs_eql bs_neq bs_add bi_eql bi_neq bi_lss bi_leq bi_gtr bi_geq bi_add64 bi_sub64 bi_mul64
theorem doCall_imp {cl:Cl}{hp:Hp}{d f:Nat}{args:List AV}:zcw cl hp d f args .imp=if f<RB then zbj cl hp d f args (zay hp (AV.refss args))else none:=by rw[zcw]
theorem impRet_some {hp hp':Hp}{d:Nat}{ks:List Nat}{r:AV}{es:List OB}:impRet hp d ks (some (r,hp',es))=if zbp hp' 0 ks.length then(layG hp ks d 0 es).map fun us=>(rA (dn ks d) r,zdj ks d hp'++us)else none:=rfl
def zjv (hp:Hp)(all:List Nat):List Nat->Bool
 | []=>true
 | k::l=>((hp.get k).isSome&&(oRefs (hp.get k)).all all.contains)&&zjv hp all l
def leavesL (hp:Hp)(all:List Nat):List Nat->List OB
 | []=>[]
 | k::l=>rOB (nm all) (getO hp k)::leavesL hp all l
def inL :List Nat->Bool
 | []=>true
 | k::l=>decide (SHK<=k)&&inL l
def outL :List Nat->Bool
 | []=>true
 | k::l=>decide (k<SHK)&&outL l
theorem closedL_all (hp:Hp)(all:List Nat):∀l:List Nat,zjv hp all l=l.all fun k=>(hp.get k).isSome&&(oRefs (hp.get k)).all all.contains
 | []=>rfl
 | k::l=>by rw[zjv,closedL_all hp all l,List.all_cons]
theorem leavesL_map (hp:Hp)(all:List Nat):∀l:List Nat,leavesL hp all l=l.map fun k=>rOB (nm all) (getO hp k)
 | []=>rfl
 | k::l=>by rw[leavesL,leavesL_map hp all l,List.map_cons]
theorem inL_all :∀l:List Nat,inL l=l.all fun k=>decide (SHK<=k)
 | []=>rfl
 | k::l=>by rw[inL,inL_all l,List.all_cons]
theorem outL_all :∀l:List Nat,outL l=l.all fun k=>decide (k<SHK)
 | []=>rfl
 | k::l=>by rw[outL,outL_all l,List.all_cons]
theorem closedB_l (hp:Hp)(ks:List Nat):zdr hp ks=zjv hp ks ks:=(closedL_all hp ks ks).symm
theorem packG_l (st:St)(hk:List Nat)(rs:List AV)(E:List Nat):zfg st hk rs E =
  if zjv st.hp (hk++E) (hk++E)&&(AV.refss rs).all (hk++E).contains&&zgp (hk++E)&&inL hk&&outL E&&decide (E.length<1000)&&AV.knowns rs then
   some (rAs (nm E) rs,ze1 st.hp E hk,leavesL st.hp E E)
  else none:=by
 rw[zfg,closedB_l,inL_all,outL_all,leavesL_map]
attribute [go_sem] zjv leavesL inL outL
attribute [go_sem] RB doCall_imp impRet_some zbj zay zel closedB_l oRefs zev getO idx up dn rA rAs rOB upHp zdj zbp layG SHK clean0 ksA bigs finG_norm finG_ret genK_some mapG_some packG_l zch refsH zcb ze1 nm oneOr AV.knowns Option.getD_some List.getD_cons_zero List.getD_cons_succ Option.isSome_some Option.isSome_none
end Go.Ev
