/-
  For the evaluator's user: evaluation by simp, no lambda on the way. No condition.
-/
import Derived.Test.YtaloneiaejhopaaGreatDoorEvD
import Derived.Attr
set_option linter.all false
open Function renaming comp_def->wB
open Bool renaming false_eq_true->wC,true_and->wD,and_eq_true->wE,not_true->wF
open Option renaming bind_some->wG,some.injEq->wH,map_some->wJ
open BitVec renaming eq_of_toNat_eq->wK,ofInt_natCast->wM,toNat_ofNat->wN,toNat_ofInt->wO,ofInt_mul->wP,ofInt_add->wQ,toInt->wR
open Int renaming fdiv_eq_ediv_of_nonneg->wS,ofNat_lt->wT,ofNat_le->wU,ediv_eq_zero_of_lt->wW,pow_pos->wX,natCast_emod->wY,le_of_lt->wZ
open Nat renaming le_refl->w0,add_zero->w1,min_eq_right->w2,min_eq_left->w3,zero_add->w5,sub_self->w6,zero_le->w7,pow_le_pow_right->w8,add_one_sub_one->w9,mod_eq_of_lt->wa,div_eq_of_lt->wb,not_lt_zero->wd,lt_irrefl->we,sub_zero->wf,le_total->wg,not_lt->wh
open List renaming mem_append->wi,cons_append->wj,getElem?_cons_succ->wk,append_assoc->wm,singleton_append->wn,contains_iff_mem->wo,all_cons->wp,length_cons->wr,getElem?_cons_zero->ws,nil_append->wt,append_nil->wu,map_cons->wv,nodup_append->ww,take_length->wx,all_eq_true->wy,map_append->WA,getElem?_eq_some_iff->WD,length_nil->WF,mem_cons->WG
namespace Go.Ev
open Go
class Lq (p:Prop):Prop where
 t:True
instance {α :Type} {a b:α}:Lq (a=b):=⟨trivial⟩
instance {α :Type} [LE α] {a b:α}:Lq (a<=b):=⟨trivial⟩
instance {α :Type} [LT α] {a b:α}:Lq (a<b):=⟨trivial⟩
instance {a b:Prop}:Lq (a/\b):=⟨trivial⟩
instance {a b:Prop}:Lq (a\/b):=⟨trivial⟩
instance {a b:Prop}:Lq (a↔b):=⟨trivial⟩
theorem zq {p:Prop}[Lq p](h:p):p:=h
abbrev Its.o (d:Nat)(m:MOp)(r:Its):Its:=.op (some d) m r
abbrev Its.u (m:MOp)(r:Its):Its:=.op none m r
abbrev FO.o (d:Nat)(m:MOp):FO:=⟨some d,m,none⟩
abbrev FO.u (m:MOp):FO:=⟨none,m,none⟩
abbrev FO.w (d g:Nat)(b:Bool)(m:MOp):FO:=⟨some d,m,some (g,b)⟩
abbrev MOp.m (i:Nat):MOp:=.mov (.t i)
abbrev MOp.l (i:Nat):MOp:=.load false 1 (.t i)
abbrev MOp.L (n i:Nat):MOp:=.load true n (.t i)
abbrev MOp.a (i off x:Nat):MOp:=.faddr i off (.t x)
abbrev MOp.b (op:BinOp)(x y:Nat):MOp:=.bin op (.t x) (.t y)
abbrev MOp.S (n p x:Nat):MOp:=.store n (.t p) (.t x)
abbrev MOp.x (t i:Nat):MOp:=.extr (.t t) i
abbrev MOp.n (t:Nat):MOp:=.len false (.t t)
abbrev MOp.I (esz x i:Nat):MOp:=.iaddrS esz (.t x) (.t i)
abbrev MOp.q (a b:Nat):MOp:=.pick (.t a) (.t b) (.c (.bool false))
abbrev Opd.i (n:Int):Opd:=.c (.int .i64 n)
def BQ (gl:Gl)(cl:Cl)(b:MC):Option (Ex×St)->Option (Ex×St)
 | some (.norm,st)=>evC gl cl b st
 | r=>r
def um (id:Nat):Option (Ex×St)->Option (Ex×St)
 | some (e,st)=>some (if e= .exit id then .norm else e,st)
 | none=>none
def AH (ks:List Kp):Option (Ex×St)->Option (Ex×St)
 | some (.norm,st)=>(bT ks st).map fun st=>(.norm,st)
 | r=>r
def IW :Option St->Option (Ex×St)
 | some st=>some (.norm,st)
 | none=>none
def Sf (gl:Gl)(cl:Cl)(d:Option Nat)(rest:Its)(st:St):Option (AV×Hp)->Option St
 | some (v,us)=>bA gl cl rest (st.upd d v us)
 | none=>none
def Sg (gl:Gl)(cl:Cl)(lo hi d:Nat)(rest:Its)(st:St):Option AV->Option St
 | some x=>bA gl cl rest {fr:=.set d x::.clr lo hi::st.fr,hp:=st.hp}
 | none=>none
def fnK (fd:Fd):Option (Ex×St)->Option (AV×Hp×List OB)
 | some (.norm,st)|some (.ret,st)=>(gC st fd.res fd.pk).map fun z=>(match z.1 with|[a]=>a|l=>.tup l,[],z.2)
 | _=>none
section
variable {gl :Gl} {cl:Cl} {st:St}
theorem KX :evC gl cl .skip st=some (.norm,st):=rfl
theorem yN :evC gl cl .ret st=some (.ret,st):=rfl
theorem K2 {i:Nat}:evC gl cl (.exit i) st=some (.exit i,st):=rfl
theorem GE {b:MC}:evC gl cl (.scope b) st=evC gl cl b st:=rfl
theorem yM {a b:MC}:evC gl cl (.seq a b) st=BQ gl cl b (evC gl cl a st):=by rw[evC];rcases evC gl cl a st with _|⟨_|_|_,_⟩<;>rfl
theorem EZ {b:MC}:BQ gl cl b (some (.norm,st))=evC gl cl b st:=by rw[BQ]
theorem HF {b:MC}:BQ gl cl b (some (.ret,st))=some (.ret,st):=rfl
theorem pg {b:MC}{i:Nat}:BQ gl cl b (some (.exit i,st))=some (.exit i,st):=rfl
theorem GH {i:Nat}{b:MC}:evC gl cl (.block i b) st=um i (evC gl cl b st):=by rw[evC];rcases evC gl cl b st with _|⟨_,_⟩<;>rfl
theorem Bt {i:Nat}:um i (some (.norm,st))=some (.norm,st):=rfl
theorem Dl {i:Nat}:um i (some (.ret,st))=some (.ret,st):=rfl
theorem lI {i j:Nat}:um i (some (.exit j,st))=some (if j=i then .norm else .exit j,st):=by simp[um]
theorem KZ {ks:List Kp}{b:MC}:evC gl cl (.kept ks b) st=AH ks (evC gl cl b st):=by rw[evC];rcases evC gl cl b st with _|⟨_|_|_,_⟩<;>rfl
theorem tp {ks:List Kp}{st':St}(h:bT ks st=some st'):AH ks (some (.norm,st))=some (.norm,st'):=by simp[AH,h]
theorem yO {i:Its}:evC gl cl (.reg i) st=IW (bA gl cl i st):=by rw[evC];cases bA gl cl i st<;>rfl
theorem mW :IW (some st)=some (.norm,st):=rfl
theorem GC :bA gl cl .nil st=some st:=rfl
theorem KW {d:Option Nat}{m:MOp}{r:Its}:bA gl cl (.op d m r) st=Sf gl cl d r st (af gl cl st d m):=by rw[bA];rcases af gl cl st d m with _|⟨_,_⟩<;>rfl
theorem FK {d:Option Nat}{r:Its}{v:AV}{us:Hp}:Sf gl cl d r st (some (v,us))=bA gl cl r (st.upd d v us):=by rw[Sf]
end
def cF (gl:Gl)(cl:Cl):List FO->St->Option St
 | [],st=>some st
 | o::l,st =>
   match o.g with
   | none=>(af gl cl st o.d o.m).bind fun r=>cF gl cl l (st.upd o.d r.1 r.2)
   | some (c,want) =>
     match st.fr.get c with
     | .bool t=>if t=want then(af gl cl st o.d o.m).bind fun r=>cF gl cl l (st.upd o.d r.1 r.2)else cF gl cl l (st.upd o.d (.tup []) [])
     | .tup []=>cF gl cl l (st.upd o.d (.tup []) [])
     | _=>none
def pR (gl:Gl)(cl:Cl)(d:Option Nat)(l:List FO)(st:St):Option (AV×Hp)->Option St
 | some (v,us)=>cF gl cl l (st.upd d v us)
 | none=>none
section
variable {gl :Gl} {cl:Cl} {st:St}
theorem tS :∀{l:List FO} {st:St},(cj gl cl l st).map (·.1)=cF gl cl l st
 | [],st=>rfl
 | o::l,st=>by
   have ih:=fun st=>tS (l:=l) (st:=st)
   obtain⟨d,m,g⟩:=o
   cases g with
   | none=>simp only[cj,cF];cases af gl cl st d m<;>simp[<-ih,wB]
   | some p =>
     obtain⟨c,want⟩:=p;simp only[cj,cF]
     cases st.fr.get c with
     | bool t=>by_cases h:t=want<;>simp only[h,if_true,if_false]<;>first|(cases af gl cl st d m<;>simp[<-ih,wB];done)|simp[<-ih,wB]
     | tup l=>cases l<;>simp[<-ih,wB]
     | _=>rfl
theorem pT {l:List FO}:evC gl cl (.draw l []) st=IW (cF gl cl l st):=by rw[evC,<-tS];rcases cj gl cl l st with _|⟨_,_⟩<;>rfl
theorem lB :cF gl cl [] st=some st:=rfl
theorem nk {d:Option Nat}{m:MOp}{l:List FO}:cF gl cl (⟨d,m,none⟩::l) st=pR gl cl d l st (af gl cl st d m):=by rw[cF];rcases af gl cl st d m with _|⟨_,_⟩<;>rfl
theorem lq {d:Option Nat}{l:List FO}{v:AV}{us:Hp}:pR gl cl d l st (some (v,us))=cF gl cl l (st.upd d v us):=by rw[pR]
end
theorem Oj {gl:Gl}{cl:Cl}{fd:Fd}{args:List AV}(hg:oy fd.pk=false):qM gl cl fd args []=fnK fd (evC gl cl fd.body {fr:=kr 0 args,hp:=[]}):=by rw[qM,hg];simp only[wC,if_false];rcases evC gl cl fd.body _ with _|⟨_|_|_,_⟩<;>rfl
theorem OD {gl:Gl}{tab:Nat->Option Fd}{n f:Nat}{args:List AV}{fd:Fd}(h:tab f=some fd)(hg:oy fd.pk=false)(hv:fd.giv=none:=by rfl):call gl tab (n+1) f args []=fnK fd (evC gl (call gl tab n) fd.body {fr:=kr 0 args,hp:=[]}):=by rw[call,h];simp only[wG,hv];exact Oj hg
theorem cX {gl:Gl}{tab:Nat->Option Fd}{n f:Nat}{args:List AV}{imps:Hp}{fd:Fd}{g}(h:tab f=some fd)(hv:fd.giv=some g:=by rfl):call gl tab (n+1) f args imps=g gl (call gl tab n) args imps:=by rw[call,h];simp only[wG,hv]
theorem pD {f:St->Option (Ex×St)}{ks:List Kp}{n:Nat}{st st1 st2:St}(h:bT ks st=some st1)(hf:f st1=some (.norm,st2)):fG f ks (n+1) st=fG f ks n st2:=by rw[fG,h];simp[hf]
theorem kY {f:St->Option (Ex×St)}{ks:List Kp}{n:Nat}{st st1 st2:St}{e:Ex}(h:bT ks st=some st1)(hf:f st1=some (e,st2))(he:e≠.norm):fG f ks (n+1) st=some (e,st2):=by rw[fG,h];cases e<;>simp_all
theorem Jw {f:St->Option (Ex×St)}{ks:List Kp}(S:Nat->St)(N:Nat){st out:St}{e:Ex}(hN:N<LF)
  (h0:bT ks st=some (S 0)) (hs:∀i,i<N->∃st2,f (S i)=some (.norm,st2)/\bT ks st2=some (S (i+1))) (he:f (S N)=some (e,out)) (hne:e≠.norm) :
  fG f ks LF st=some (e,out):=by
 have key:∀(d i n:Nat) (st:St),i+d=N->d<n->bT ks st=some (S i)->fG f ks n st=some (e,out):=by
  intro d
  induction d with
  | zero =>
    intro i n st hi hn hc;obtain⟨n,rfl⟩:∃m,n=m+1:=⟨n-1,by omega⟩;have:i=N:=by omega
    subst this;exact kY hc he hne
  | succ d ih =>intro i n st hi hn hc;obtain⟨n,rfl⟩:∃m,n=m+1:=⟨n-1,by omega⟩;obtain⟨st2,h1,h2⟩:=hs i (by omega);rw[pD hc h1];exact ih (i+1) n st2 (by omega) (by omega) h2
 exact key N 0 LF st (by omega) hN h0
end Go.Ev
namespace Go.Ev
open Go
def Kb (res:List ResD)(pk:List Pk):Option (Ex×St)->Option (AV×Hp×List OB)
 | some (.norm,st)|some (.ret,st)=>(gC st res pk).map fun z=>(match z.1 with|[a]=>a|l=>.tup l,[],z.2)
 | _=>none
theorem au {gl:Gl}{tab:Nat->Option Fd}{n f:Nat}{args:List AV}{fd:Fd}(h:tab f=some fd)(hg:oy fd.pk=false:=by rfl)(hv:fd.giv=none:=by rfl):call gl tab (n+1) f args []=Kb fd.res fd.pk (evC gl (call gl tab n) fd.body {fr:=kr 0 args,hp:=[]}):=by rw[OD h hg hv];rcases evC gl (call gl tab n) fd.body _ with _|⟨_|_|_,_⟩<;>rfl
def Ie :Option (List AV×List OB)->Option (AV×Hp×List OB)
 | some ([a],es)=>some (a,[],es)
 | some (l,es)=>some (.tup l,[],es)
 | none=>none
theorem Gw {res:List ResD}{pk:List Pk}{st:St}:Kb res pk (some (.norm,st))=Ie (gC st res pk):=by simp only[Kb];rcases gC st res pk with _|⟨_|⟨a,_|⟨b,l⟩⟩,es⟩<;>rfl
theorem Ka {res:List ResD}{pk:List Pk}{st:St}:Kb res pk (some (.ret,st))=Ie (gC st res pk):=by simp only[Kb];rcases gC st res pk with _|⟨_|⟨a,_|⟨b,l⟩⟩,es⟩<;>rfl
theorem Ib {a:AV}{es:List OB}:Ie (some ([a],es))=some (a,[],es):=rfl
theorem Ic {es:List OB}:Ie (some ([],es))=some (.tup [],[],es):=rfl
theorem Ia {a b:AV}{l:List AV}{es:List OB}:Ie (some (a::b::l,es))=some (.tup (a::b::l),[],es):=rfl
def Ll (a:AV):Option (List AV)->Option (List AV)
 | some l=>some (a::l)
 | none=>none
def Io (st:St)(rs:List ResD):Option AV->Option (List AV)
 | some a=>Ll a (bY st rs)
 | none=>none
theorem Aj {st:St}:bY st []=some []:=rfl
theorem xV {st:St}{r:ResD}{rs:List ResD}:bY st (r::rs)=Io st rs (gm st r):=by
 rw[bY];rcases gm st r with _|a
 . rfl
 . simp only[wG,Io];rcases bY st rs with _|l<;>rfl
theorem B4 {st:St}{rs:List ResD}{a:AV}:Io st rs (some a)=Ll a (bY st rs):=rfl
theorem Dg {a:AV}{l:List AV}:Ll a (some l)=some (a::l):=rfl
def VO :Option (AV×Hp)->Option AV
 | some q=>some q.1
 | none=>none
theorem Gr {a:AV}{us:Hp}:VO (some (a,us))=some a:=rfl
theorem Ai {st:St}{t:Nat}:gm st (.tmp t)=some (st.fr.get t):=rfl
theorem xU {st:St}{t n:Nat}{ag:Bool}:gm st (.cell t ag n)=VO (af Gl.none (fun _ _ _=>none) st none (.load ag n (.t t))):=by rw[gm];rcases af _ _ st none _ with _|⟨a,b⟩<;>rfl
def IM (st:St)(pks:List Pk):Option (List AV)->Option (List AV×List OB)
 | some rs=>if dR (eY rs pks)then eL st.hp (ki (eY rs pks)++st.hp) 0 rs pks else none
 | none=>none
theorem IL {st:St}{res:List ResD}{pks:List Pk}:gC st res pks=IM st pks (bY st res):=by rw[gC];rcases bY st res with _|rs<;>rfl
theorem An {st:St}{pks:List Pk}{rs:List AV}:IM st pks (some rs)=if dR (eY rs pks)then eL st.hp (ki (eY rs pks)++st.hp) 0 rs pks else none:=rfl
def prK (hp hp':Hp)(j:Nat)(rs:List AV)(pks:List Pk):Option (AV×List OB)->Option (List AV×List OB)
 | some (a,es)=>(eL hp hp' (j+es.length) rs pks).map fun z=>(a::z.1,es++z.2)
 | none=>none
theorem Ca {hp hp':Hp}{j:Nat}{pks:List Pk}:eL hp hp' j [] pks=some ([],[]):=by cases pks<;>rfl
theorem Ao {hp hp':Hp}{j:Nat}{r:AV}{rs:List AV}{pks:List Pk}:eL hp hp' j (r::rs) pks=prK hp hp' j rs pks.tail (jh hp hp' j r (pks.headD .asis)):=by rw[eL];rcases jh hp hp' j r (pks.headD .asis)with _|⟨a,es⟩<;>rfl
theorem IF {hp hp':Hp}{j:Nat}{rs:List AV}{pks:List Pk}{a:AV}{es:List OB}:prK hp hp' j rs pks (some (a,es))=(eL hp hp' (j+es.length) rs pks).map fun z=>(a::z.1,es++z.2):=rfl
def P2 :Option AV->Option (AV×List OB)
 | some a=>if a.known then some (a,[])else none
 | none=>none
theorem Cb {hp hp':Hp}{j:Nat}{r:AV}:jh hp hp' j r .asis=P2 (aW hp' 4 r):=by rw[jh];rcases aW hp' 4 r with _|a<;>rfl
theorem Dr {a:AV}:P2 (some a)=if a.known then some (a,[])else none:=rfl
end Go.Ev
namespace Go.Ev
open Go
theorem KY {gl:Gl}{cl:Cl}{ks:List Kp}{b:MC}{st:St}:evC gl cl (.loop ks b) st=fG (evC gl cl b) ks LF st:=rfl
end Go.Ev
namespace Go.Ev
open Go
def aK (ks:List Kp):Option (Ex×St)->Option St
 | some (.norm,st)=>bT ks st
 | _=>none
theorem cW {ks:List Kp}{st:St}:aK ks (some (.norm,st))=bT ks st:=rfl
def oz :Option (Ex×St)->Bool
 | some (.exit _,_)=>true
 | some (.ret,_)=>true
 | _=>false
theorem FR {i:Nat}{st:St}:oz (some (.exit i,st))=true:=rfl
theorem Jx {st:St}:oz (some (.ret,st))=true:=rfl
theorem aE {f:St->Option (Ex×St)}{ks:List Kp}(S:Nat->St)(N:Nat){st:St}(hN:N<LF)(h0:bT ks st=some (S 0))(hs:∀i,i<N->aK ks (f (S i))=some (S (i+1)))(he:oz (f (S N))=true) :
  fG f ks LF st=f (S N):=by
 cases h:f (S N)with
 | none=>rw[h]at he;cases he
 | some r =>
   obtain⟨e,out⟩:=r;refine Jw S N hN h0 (fun i hi=> ?_) h (by rw[h]at he;cases e<;>simp_all[oz]);have:=hs i hi;unfold aK at this;split at this
   . rename_i st2 h2;exact⟨st2,h2,this⟩
   . cases this
end Go.Ev
namespace Go.Ev
open Go
def Lm (gl:Gl)(cl:Cl)(a b:MC)(st:St):AV->Option (Ex×St)
 | .bool true=>evC gl cl a st
 | .bool false=>evC gl cl b st
 | _=>none
theorem GG {gl:Gl}{cl:Cl}{c:Opd}{a b:MC}{st:St}:evC gl cl (.cond c a b) st=Lm gl cl a b st (c.val gl st.fr):=by rw[evC];cases c.val gl st.fr<;>first|rfl|(rename_i t;cases t<;>rfl)
theorem Dh {gl:Gl}{cl:Cl}{a b:MC}{st:St}:Lm gl cl a b st (.bool true)=evC gl cl a st:=rfl
theorem Bl {gl:Gl}{cl:Cl}{a b:MC}{st:St}:Lm gl cl a b st (.bool false)=evC gl cl b st:=rfl
def su (x:AV):Option AV:=if x.plain then some x else none
def Cr (gl:Gl)(a:Opd):Option St->Option AV
 | some st1=>su (a.val gl st1.fr)
 | none=>none
def yv (gl:Gl)(cl:Cl)(w t:Bool)(blk:Its)(a b:Opd)(st:St):Option AV :=
 if t=w then Cr gl (if w then a else b) (bA gl cl blk st)else some ((if w then b else a).val gl st.fr)
def Si (gl:Gl)(cl:Cl)(w:Bool)(blk:Its)(lo hi d:Nat)(a b:Opd)(rest:Its)(st:St):AV->Option St
 | .bool t=>Sg gl cl lo hi d rest st (yv gl cl w t blk a b st)
 | _=>none
def iw (gl:Gl)(cl:Cl)(d:Option Nat)(m:MOp)(w:Bool)(l:List FO)(st:St):AV->Option St
 | .bool t=>if t=w then pR gl cl d l st (af gl cl st d m)else cF gl cl l (st.upd d (.tup []) [])
 | .tup []=>cF gl cl l (st.upd d (.tup []) [])
 | _=>none
section
variable {gl :Gl} {cl:Cl} {st:St}
theorem GD {c:Nat}{w:Bool}{blk:Its}{lo hi d:Nat}{a b:Opd}{rest:Its} :
  bA gl cl (.ite c w blk lo hi d a b rest) st=Si gl cl w blk lo hi d a b rest st (st.fr.get c):=by
 rw[bA]
 cases st.fr.get c with
 | bool t =>
   simp only[Si,yv];split
   . cases w<;>(simp only[if_true,if_false,wC];cases bA gl cl blk st with
      | none=>rfl
      | some st1=>simp only[wG,Cr,su];split<;>rfl)
   . rfl
 | _=>rfl
theorem FP {t w:Bool}{blk:Its}{lo hi d:Nat}{a b:Opd}{rest:Its}:Si gl cl w blk lo hi d a b rest st (.bool t)=Sg gl cl lo hi d rest st (yv gl cl w t blk a b st):=rfl
theorem NN {blk:Its}{a b:Opd}:yv gl cl true true blk a b st=Cr gl a (bA gl cl blk st):=rfl
theorem NQ {blk:Its}{a b:Opd}:yv gl cl false false blk a b st=Cr gl b (bA gl cl blk st):=rfl
theorem NO {blk:Its}{a b:Opd}:yv gl cl true false blk a b st=some (b.val gl st.fr):=rfl
theorem NP {blk:Its}{a b:Opd}:yv gl cl false true blk a b st=some (a.val gl st.fr):=rfl
theorem FQ {a:Opd}{st1:St}:Cr gl a (some st1)=su (a.val gl st1.fr):=rfl
theorem Ak {b:Bool}:su (.bool b)=some (.bool b):=rfl
theorem B8 {k:IntKind}{n:Int}:su (.int k n)=some (.int k n):=rfl
theorem FN {lo hi d:Nat}{rest:Its}{x:AV}:Sg gl cl lo hi d rest st (some x)=bA gl cl rest {fr:=.set d x::.clr lo hi::st.fr,hp:=st.hp}:=rfl
theorem uV {d:Option Nat}{m:MOp}{c:Nat}{w:Bool}{l:List FO}:cF gl cl (⟨d,m,some (c,w)⟩::l) st=iw gl cl d m w l st (st.fr.get c):=by
 rw[cF];simp only;generalize st.fr.get c=v
 cases v with
 | bool t =>
   simp only[iw];by_cases h:t=w
   . simp only[h,if_true];rcases af gl cl st d m with _|⟨_,_⟩<;>rfl
   . simp only[h,if_false]
 | tup l=>cases l<;>rfl
 | _=>rfl
theorem FZ {d:Option Nat}{m:MOp}{l:List FO}:iw gl cl d m true l st (.bool true)=pR gl cl d l st (af gl cl st d m):=by rw[iw,if_pos rfl]
theorem F2 {d:Option Nat}{m:MOp}{l:List FO}:iw gl cl d m false l st (.bool false)=pR gl cl d l st (af gl cl st d m):=by rw[iw,if_pos rfl]
theorem F0 {d:Option Nat}{m:MOp}{l:List FO}:iw gl cl d m true l st (.bool false)=cF gl cl l (st.upd d (.tup []) []):=by rw[iw,if_neg (by decide)]
theorem F1 {d:Option Nat}{m:MOp}{l:List FO}:iw gl cl d m false l st (.bool true)=cF gl cl l (st.upd d (.tup []) []):=by rw[iw,if_neg (by decide)]
end
end Go.Ev
namespace Go.Ev
open Go
def RY :Option (List AV×Hp×List OB)->Option (AV×Hp×List OB)
 | some (l,hp,es)=>some (sF l,hp,es)
 | none=>none
def Gq (st:St)(hk:List Nat):Option (List AV)->Option (AV×Hp×List OB)
 | some rs=>RY (fO st hk rs (eH st hk rs))
 | none=>none
def SE (res:List ResD)(hk:List Nat):Option (Ex×St)->Option (AV×Hp×List OB)
 | some (.norm,st)|some (.ret,st)=>Gq st hk (bY st res)
 | _=>none
theorem bf {gl:Gl}{tab:Nat->Option Fd}{n f:Nat}{args:List AV}{imps:Hp}{fd:Fd}(h:tab f=some fd)(hg:oy fd.pk=true:=by rfl)(hm:gR fd.body=true:=by rfl)(hv:fd.giv=none:=by rfl) :
  call gl tab (n+1) f args imps=SE fd.res (eT imps) (evC gl (call gl tab n) fd.body {fr:=kr 0 args,hp:=imps}):=by
 have key:∀st:St,((bY st fd.res).bind fun rs=>(fO st (eT imps) rs (eH st (eT imps) rs)).map fun z=>(sF z.1,z.2.1,z.2.2))=Gq st (eT imps) (bY st fd.res):=fun st=>by
  rcases bY st fd.res with _|rs
  . rfl
  . simp only[wG,Gq];rcases fO st (eT imps) rs (eH st (eT imps) rs)with _|⟨_,_,_⟩<;>rfl
 rw[call,h];simp only[wG,hv,qM,hg,hm,if_true,wF,wC,if_false];rcases evC gl (call gl tab n) fd.body _ with _|⟨_|_|_,st⟩
 . rfl
 . exact key st
 . rfl
 . exact key st
theorem Gx {res:List ResD}{hk:List Nat}{st:St}:SE res hk (some (.norm,st))=Gq st hk (bY st res):=rfl
theorem Kc {res:List ResD}{hk:List Nat}{st:St}:SE res hk (some (.ret,st))=Gq st hk (bY st res):=rfl
theorem Gp {st:St}{hk:List Nat}{rs:List AV}:Gq st hk (some rs)=RY (fO st hk rs (eH st hk rs)):=rfl
theorem Fx {l:List AV}{hp:Hp}{es:List OB}:RY (some (l,hp,es))=some (sF l,hp,es):=rfl
end Go.Ev
namespace Go.Ev
open Go
theorem tX (w:Nat)(a:Int):a%(2^w:Int)=((BitVec.ofInt w a).toNat:Int):=by
 rw[wO];have h:(0:Int)<2^w:=wX (by omega);have h1:=Int.emod_nonneg a (Int.ne_of_gt h);have e:((2^w:Nat):Int)=(2:Int)^w:=by simp
 rw[e];exact(Int.toNat_of_nonneg h1).symm
theorem fA {w:Nat}(x:BitVec w):BitVec.ofInt w (x.toNat:Int)=x:=by simp
theorem sH (w:Nat)(a b:Int):BitVec.ofInt w (a-b)=BitVec.ofInt w a-BitVec.ofInt w b:=by rw[Int.sub_eq_add_neg,wQ,BitVec.ofInt_neg,BitVec.sub_eq_add_neg]
theorem j5 {k:IntKind}(hs:k.signed=false)(a:Int):k.wrap a=((BitVec.ofInt k.bits a).toNat:Int):=by rw[<-tX];simp[IntKind.wrap,hs]
section
variable {k :IntKind} (hs:k.signed=false)
include hs
theorem OS (a b:Int):aM .and k a b=some (.int k ((BitVec.ofInt k.bits a&&&BitVec.ofInt k.bits b).toNat:Int)):=by simp only[aM,j5 hs,fA]
theorem orU (a b:Int):aM .or k a b=some (.int k ((BitVec.ofInt k.bits a|||BitVec.ofInt k.bits b).toNat:Int)):=by simp only[aM,j5 hs,fA]
theorem L3 (a b:Int):aM .xor k a b=some (.int k ((BitVec.ofInt k.bits a^^^BitVec.ofInt k.bits b).toNat:Int)):=by simp only[aM,j5 hs,fA]
theorem OY (a b:Int):aM .add k a b=some (.int k ((BitVec.ofInt k.bits a+BitVec.ofInt k.bits b).toNat:Int)):=by simp only[aM,j5 hs,wQ]
theorem Mk (a b:Int):aM .sub k a b=some (.int k ((BitVec.ofInt k.bits a-BitVec.ofInt k.bits b).toNat:Int)):=by simp only[aM,j5 hs,sH]
theorem Nu (a b:Int):aM .mul k a b=some (.int k ((BitVec.ofInt k.bits a*BitVec.ofInt k.bits b).toNat:Int)):=by simp only[aM,j5 hs,wP]
theorem MR (a b:Int)(h:0<=b):bW .shl k a b=some (.int k ((BitVec.ofInt k.bits a<<<b.toNat).toNat:Int)):=by
 have h':¬b<0:=by omega
 simp only[bW,h',if_false,j5 hs];have e:BitVec.ofInt k.bits (a*2^min b.toNat k.bits)=BitVec.ofInt k.bits a<<<b.toNat:=by
  rw[wP];rcases Nat.lt_or_ge b.toNat k.bits with hb|hb
  . rw[w3 (Nat.le_of_lt hb)];have:BitVec.ofInt k.bits (2^b.toNat)=BitVec.twoPow k.bits b.toNat:=by rw[show(2:Int)^b.toNat=((2^b.toNat:Nat):Int) by simp,wM,BitVec.twoPow_eq];apply wK;simp[Nat.shiftLeft_eq]
    rw[this,BitVec.mul_twoPow_eq_shiftLeft]
  . rw[w2 hb,BitVec.shiftLeft_eq_zero hb];have:BitVec.ofInt k.bits (2^k.bits)=0#k.bits:=by rw[show(2:Int)^k.bits=((2^k.bits:Nat):Int) by simp,wM];apply wK;simp
    rw[this,BitVec.mul_zero]
 rw[e]
omit hs in
theorem MN {k:IntKind}(x:BitVec k.bits)(b:Int)(h:0<=b):bW .shr k (x.toNat:Int) b=some (.int k ((x>>>b.toNat).toNat:Int)):=by
 have h':¬b<0:=by omega
 simp only[bW,h',if_false];have e:((x.toNat:Int)).fdiv (2^min b.toNat k.bits)=((x>>>b.toNat).toNat:Int):=by
  rw[BitVec.toNat_ushiftRight,Nat.shiftRight_eq_div_pow,wS _ (wZ (wX (by omega)))];rw[show(2:Int)^min b.toNat k.bits=((2^min b.toNat k.bits:Nat):Int) by simp,<-Int.natCast_ediv]
  congr 1
  rcases wg b.toNat k.bits with hb|hb
  . rw[w3 hb]
  . rw[w2 hb,wb x.isLt,wb (Nat.lt_of_lt_of_le x.isLt (w8 (by omega) hb))]
 rw[e]
theorem Nk (a:Int):k.wrap ((BitVec.ofInt k.bits (if k.signed then -1 else k.max)^^^BitVec.ofInt k.bits a).toNat)=((~~~ BitVec.ofInt k.bits a).toNat:Int):=by
 rw[j5 hs,fA]
 congr 2
 have:BitVec.ofInt k.bits (if k.signed then -1 else k.max)=BitVec.allOnes k.bits:=by
  rw[hs];simp only[wC,if_false,IntKind.max,hs];rw[sH,show(2:Int)^k.bits=((2^k.bits:Nat):Int) by simp,wM];have:BitVec.ofNat k.bits (2^k.bits)=0#k.bits:=by apply wK;simp
  rw[this,BitVec.zero_sub,<-BitVec.neg_one_eq_allOnes];rfl
 rw[this,BitVec.allOnes_xor]
end
theorem L6 (a:Int):IntKind.wrap .u8 a=((BitVec.ofInt 8 a).toNat:Int):=j5 rfl a
theorem Ul (a b:Int):aM .and .u8 a b=some (.int .u8 ((BitVec.ofInt 8 a&&&BitVec.ofInt 8 b).toNat:Int)):=OS rfl a b
theorem UZ (a b:Int):aM .or .u8 a b=some (.int .u8 ((BitVec.ofInt 8 a|||BitVec.ofInt 8 b).toNat:Int)):=orU rfl a b
theorem P8 (a b:Int):aM .xor .u8 a b=some (.int .u8 ((BitVec.ofInt 8 a^^^BitVec.ofInt 8 b).toNat:Int)):=L3 rfl a b
theorem Uo (a b:Int):aM .add .u8 a b=some (.int .u8 ((BitVec.ofInt 8 a+BitVec.ofInt 8 b).toNat:Int)):=OY rfl a b
theorem Qv (a b:Int):aM .sub .u8 a b=some (.int .u8 ((BitVec.ofInt 8 a-BitVec.ofInt 8 b).toNat:Int)):=Mk rfl a b
theorem RV (a b:Int):aM .mul .u8 a b=some (.int .u8 ((BitVec.ofInt 8 a*BitVec.ofInt 8 b).toNat:Int)):=Nu rfl a b
theorem Ro (a b:Int)(h:0<=b):bW .shl .u8 a b=some (.int .u8 ((BitVec.ofInt 8 a<<<b.toNat).toNat:Int)):=MR rfl a b h
theorem Rn (x:BitVec 8)(b:Int)(h:0<=b):bW .shr .u8 (x.toNat:Int) b=some (.int .u8 ((x>>>b.toNat).toNat:Int)):=MN (k:=.u8) x b h
theorem RQ (a:Int):IntKind.wrap .u8 ((BitVec.ofInt (IntKind.bits .u8) (if IntKind.signed .u8 then -1 else IntKind.max .u8)^^^BitVec.ofInt (IntKind.bits .u8) a).toNat)=((~~~ BitVec.ofInt 8 a).toNat:Int):=Nk rfl a
theorem Hk (a:Int):IntKind.wrap .u16 a=((BitVec.ofInt 16 a).toNat:Int):=j5 rfl a
theorem OR (a b:Int):aM .and .u16 a b=some (.int .u16 ((BitVec.ofInt 16 a&&&BitVec.ofInt 16 b).toNat:Int)):=OS rfl a b
theorem RJ (a b:Int):aM .or .u16 a b=some (.int .u16 ((BitVec.ofInt 16 a|||BitVec.ofInt 16 b).toNat:Int)):=orU rfl a b
theorem L2 (a b:Int):aM .xor .u16 a b=some (.int .u16 ((BitVec.ofInt 16 a^^^BitVec.ofInt 16 b).toNat:Int)):=L3 rfl a b
theorem OX (a b:Int):aM .add .u16 a b=some (.int .u16 ((BitVec.ofInt 16 a+BitVec.ofInt 16 b).toNat:Int)):=OY rfl a b
theorem Mj (a b:Int):aM .sub .u16 a b=some (.int .u16 ((BitVec.ofInt 16 a-BitVec.ofInt 16 b).toNat:Int)):=Mk rfl a b
theorem Ns (a b:Int):aM .mul .u16 a b=some (.int .u16 ((BitVec.ofInt 16 a*BitVec.ofInt 16 b).toNat:Int)):=Nu rfl a b
theorem MQ (a b:Int)(h:0<=b):bW .shl .u16 a b=some (.int .u16 ((BitVec.ofInt 16 a<<<b.toNat).toNat:Int)):=MR rfl a b h
theorem ML (x:BitVec 16)(b:Int)(h:0<=b):bW .shr .u16 (x.toNat:Int) b=some (.int .u16 ((x>>>b.toNat).toNat:Int)):=MN (k:=.u16) x b h
theorem Nj (a:Int):IntKind.wrap .u16 ((BitVec.ofInt (IntKind.bits .u16) (if IntKind.signed .u16 then -1 else IntKind.max .u16)^^^BitVec.ofInt (IntKind.bits .u16) a).toNat)=((~~~ BitVec.ofInt 16 a).toNat:Int):=Nk rfl a
theorem Hj (a:Int):IntKind.wrap .u32 a=((BitVec.ofInt 32 a).toNat:Int):=j5 rfl a
theorem OQ (a b:Int):aM .and .u32 a b=some (.int .u32 ((BitVec.ofInt 32 a&&&BitVec.ofInt 32 b).toNat:Int)):=OS rfl a b
theorem RH (a b:Int):aM .or .u32 a b=some (.int .u32 ((BitVec.ofInt 32 a|||BitVec.ofInt 32 b).toNat:Int)):=orU rfl a b
theorem L0 (a b:Int):aM .xor .u32 a b=some (.int .u32 ((BitVec.ofInt 32 a^^^BitVec.ofInt 32 b).toNat:Int)):=L3 rfl a b
theorem OW (a b:Int):aM .add .u32 a b=some (.int .u32 ((BitVec.ofInt 32 a+BitVec.ofInt 32 b).toNat:Int)):=OY rfl a b
theorem Mi (a b:Int):aM .sub .u32 a b=some (.int .u32 ((BitVec.ofInt 32 a-BitVec.ofInt 32 b).toNat:Int)):=Mk rfl a b
theorem Nr (a b:Int):aM .mul .u32 a b=some (.int .u32 ((BitVec.ofInt 32 a*BitVec.ofInt 32 b).toNat:Int)):=Nu rfl a b
theorem MP (a b:Int)(h:0<=b):bW .shl .u32 a b=some (.int .u32 ((BitVec.ofInt 32 a<<<b.toNat).toNat:Int)):=MR rfl a b h
theorem MJ (x:BitVec 32)(b:Int)(h:0<=b):bW .shr .u32 (x.toNat:Int) b=some (.int .u32 ((x>>>b.toNat).toNat:Int)):=MN (k:=.u32) x b h
theorem Ni (a:Int):IntKind.wrap .u32 ((BitVec.ofInt (IntKind.bits .u32) (if IntKind.signed .u32 then -1 else IntKind.max .u32)^^^BitVec.ofInt (IntKind.bits .u32) a).toNat)=((~~~ BitVec.ofInt 32 a).toNat:Int):=Nk rfl a
theorem Hi (a:Int):IntKind.wrap .u64 a=((BitVec.ofInt 64 a).toNat:Int):=j5 rfl a
theorem OP (a b:Int):aM .and .u64 a b=some (.int .u64 ((BitVec.ofInt 64 a&&&BitVec.ofInt 64 b).toNat:Int)):=OS rfl a b
theorem RG (a b:Int):aM .or .u64 a b=some (.int .u64 ((BitVec.ofInt 64 a|||BitVec.ofInt 64 b).toNat:Int)):=orU rfl a b
theorem LZ (a b:Int):aM .xor .u64 a b=some (.int .u64 ((BitVec.ofInt 64 a^^^BitVec.ofInt 64 b).toNat:Int)):=L3 rfl a b
theorem OV (a b:Int):aM .add .u64 a b=some (.int .u64 ((BitVec.ofInt 64 a+BitVec.ofInt 64 b).toNat:Int)):=OY rfl a b
theorem Mh (a b:Int):aM .sub .u64 a b=some (.int .u64 ((BitVec.ofInt 64 a-BitVec.ofInt 64 b).toNat:Int)):=Mk rfl a b
theorem Nq (a b:Int):aM .mul .u64 a b=some (.int .u64 ((BitVec.ofInt 64 a*BitVec.ofInt 64 b).toNat:Int)):=Nu rfl a b
theorem MO (a b:Int)(h:0<=b):bW .shl .u64 a b=some (.int .u64 ((BitVec.ofInt 64 a<<<b.toNat).toNat:Int)):=MR rfl a b h
theorem MI (x:BitVec 64)(b:Int)(h:0<=b):bW .shr .u64 (x.toNat:Int) b=some (.int .u64 ((x>>>b.toNat).toNat:Int)):=MN (k:=.u64) x b h
theorem Nh (a:Int):IntKind.wrap .u64 ((BitVec.ofInt (IntKind.bits .u64) (if IntKind.signed .u64 then -1 else IntKind.max .u64)^^^BitVec.ofInt (IntKind.bits .u64) a).toNat)=((~~~ BitVec.ofInt 64 a).toNat:Int):=Nk rfl a
theorem nG {a:Int}(h1:-9223372036854775808<=a)(h2:a<=9223372036854775807):IntKind.wrap .i64 a=a:=by simp only[IntKind.wrap,IntKind.bits,IntKind.signed,wD];simp only[w9,Int.reducePow];split<;>simp_all<;>omega
theorem p8 (x:BitVec 64):IntKind.wrap .i64 (x.toNat:Int)=x.toInt:=by simp only[IntKind.wrap,IntKind.bits,IntKind.signed,wD,wR];have:=x.isLt;simp only[w9,Int.reducePow];split<;>simp_all<;>omega
theorem iq {w:Nat}(hw:w<=64)(x:BitVec 64):BitVec.ofInt w x.toInt=x.setWidth w:=by
 apply wK;rw[BitVec.toNat_setWidth,wO,wR];have hd:((2:Nat)^w) ∣ 2^64:=Nat.pow_dvd_pow 2 hw;obtain⟨c,hc⟩:=hd;have e:((2^64:Nat):Int)=((2^w:Nat):Int)*(c:Int):=by rw[hc];exact Int.natCast_mul _ _
 split
 . rw[<-wY];rfl
 . rw[e,Int.sub_mul_emod_self_left,<-wY];rfl
theorem sw8 (x:BitVec 64):BitVec.ofInt 8 x.toInt=x.setWidth 8:=iq (by omega) x
theorem XJ (x:BitVec 64):BitVec.ofInt 16 x.toInt=x.setWidth 16:=iq (by omega) x
theorem XI (x:BitVec 64):BitVec.ofInt 32 x.toInt=x.setWidth 32:=iq (by omega) x
theorem XH (x:BitVec 64):BitVec.ofInt 64 x.toInt=x:=BitVec.ofInt_toInt
theorem rE (a:Int):IntKind.wrap .i64 a=(BitVec.ofInt 64 a).toInt:=by rw[<-p8,<-tX];simp only[IntKind.wrap,IntKind.bits,Int.emod_emod];rfl
theorem MM (x:BitVec 64)(b:Int)(h:0<=b):bW .shr .i64 x.toInt b=some (.int .i64 (x.sshiftRight b.toNat).toInt):=by
 have h':¬b<0:=by omega
 simp only[bW,h',if_false,BitVec.toInt_sshiftRight,IntKind.bits]
 congr 2
 rw[Int.shiftRight_eq_div_pow,wS _ (wZ (wX (by omega)))];rcases wg b.toNat 64 with hb|hb
 . rw[w3 hb];simp
 . rw[w2 hb];have h1:=x.toInt_lt;have h2:=x.le_toInt;have h3:(2:Nat)^64<=2^b.toNat:=w8 (by omega) hb;have h4:((2:Nat)^b.toNat:Int)=(2:Int)^b.toNat:=by simp
   by_cases hx:0<=x.toInt
   . rw[wW hx (by omega),wW hx (by omega)]
   . have e1:x.toInt/(2:Int)^64=-1:=by omega
     have e2:x.toInt/(((2:Nat)^b.toNat:Nat):Int)=-1:=by apply Int.ediv_eq_neg_one_of_neg_of_le<;>omega
     rw[e1,e2]
theorem Sj {n:Int}(h1:-9223372036854775808<=n)(h2:n<=9223372036854775807):∃x:BitVec 64,n=x.toInt :=
 ⟨BitVec.ofInt 64 n,by rw[<-rE,nG h1 h2]⟩
theorem OL (x:BitVec 64)(n:Nat)(h:n<2^64):((x.toNat:Int)==(n:Int))=(x==BitVec.ofNat 64 n):=by
 rw[Bool.eq_iff_iff,beq_iff_eq,beq_iff_eq,Int.natCast_inj];constructor
 . intro e;apply wK;rw[wN,wa h,e]
 . intro e;rw[e,wN,wa h]
theorem OM (x:BitVec 64):((x.toNat:Int)==1)=(x==1#64):=OL x 1 (by omega)
theorem Bq (n m:Nat):((n:Int)<(no_index (OfNat.ofNat m:Int)))=(n<@OfNat.ofNat Nat m (instOfNatNat m)):=by apply propext;exact wT
theorem Br (n m:Nat):((n:Int)<=(no_index (OfNat.ofNat m:Int)))=(n<=@OfNat.ofNat Nat m (instOfNatNat m)):=by apply propext;exact wU
theorem Az (n m:Nat):((no_index (OfNat.ofNat m:Int))<(n:Int))=(@OfNat.ofNat Nat m (instOfNatNat m)<n):=by apply propext;exact wT
theorem AA (n m:Nat):((no_index (OfNat.ofNat m:Int))<=(n:Int))=(@OfNat.ofNat Nat m (instOfNatNat m)<=n):=by apply propext;exact wU
theorem Ui (k:IntKind)(a b:Int):aM .eql k a b=some (.bool (a==b)):=rfl
theorem Ud (k:IntKind)(a b:Int):aM .neq k a b=some (.bool (a != b)):=rfl
theorem Ue (k:IntKind)(a b:Int):aM .lss k a b=some (.bool (a<b)):=rfl
theorem Uf (k:IntKind)(a b:Int):aM .leq k a b=some (.bool (a<=b)):=rfl
theorem Ug (k:IntKind)(a b:Int):aM .gtr k a b=some (.bool (a>b)):=rfl
theorem Uh (k:IntKind)(a b:Int):aM .geq k a b=some (.bool (a>=b)):=rfl
theorem LA (a b:Int):aM .add .i64 a b=some (.int .i64 (IntKind.wrap .i64 (a+b))):=rfl
theorem Ly (a b:Int):aM .sub .i64 a b=some (.int .i64 (IntKind.wrap .i64 (a-b))):=rfl
theorem Lz (a b:Int):aM .mul .i64 a b=some (.int .i64 (IntKind.wrap .i64 (a*b))):=rfl
theorem T9 (a b:List UInt8):p5 .eql a b=some (.bool (a==b)):=rfl
theorem T8 (a b:List UInt8):p5 .neq a b=some (.bool (!(a==b))):=rfl
theorem Ua {a b:List UInt8}(h:a.length+b.length<=LIM):p5 .add a b=some (.str (a++b)):=by simp[p5,h]
theorem aH (l:List UInt8):(az l).length=l.length:=by simp[az]
theorem oQ (l:List UInt8):(az l).take l.length=az l:=by rw[<-aH,wx]
theorem qG {l:List UInt8}{i:Nat}(h:i<l.length):(az l)[i]? =some (.int .u8 (l[i].toBitVec.toNat:Int)):=by rw[az,List.getElem?_map,List.getElem?_eq_getElem h];rfl
theorem kj :∀(l:List UInt8),iS (az l)=some l
 | []=>rfl
 | b::l=>by have e:az (b::l)= .int .u8 b.toNat::az l:=rfl;rw[e,iS,byteOf,kj l];simp
theorem Fk {hp hp':Hp}{j k n:Nat}{sh:Sh}:jh hp hp' j (.sl k [] 0 n) (.own sh)=(match hp.get k with
  | some (.grow sh' els)=>if Sh.beq sh sh'&&decide (n=els.length)then some (.sl (20000+j) [] 0 n,[.grow sh els])else none
  | _=>none):=rfl
theorem BV {k:IntKind}{n:Int}:(AV.int k n).scalar=true:=rfl
theorem zR {b:Bool}:(AV.bool b).scalar=true:=rfl
theorem BS {b:List UInt8}:(AV.str b).scalar=true:=rfl
theorem BU {b:Bool}{sh:Sh}{l:List AV}:(AV.lst b sh l).scalar=true:=rfl
theorem E0 {k:Nat}{p:List Nat}{a b:Nat}:(AV.sl k p a b).scalar=true:=rfl
theorem BT {k:Nat}{p:List Nat}:(AV.ptr k p).scalar=true:=rfl
theorem BW {l:List AV}:(AV.agg l).scalar=false:=rfl
section
variable {hp :Hp} {n:Nat}
theorem FD {k:IntKind}{x:Int}:aW hp n (.int k x)=some (.int k x):=by cases n<;>rfl
theorem Ck {b:Bool}:aW hp n (.bool b)=some (.bool b):=by cases n<;>rfl
theorem Fz {b:List UInt8}:aW hp n (.str b)=some (.str b):=by cases n<;>rfl
theorem NJ {v:Value}:aW hp n (.s v)=some (.s v):=by cases n<;>rfl
theorem FF {l:List AV}:aW hp n (.agg l)=some (.agg l):=by cases n<;>rfl
theorem FC {b:Bool}{sh:Sh}{l:List AV}:aW hp n (.lst b sh l)=some (.lst b sh l):=by cases n<;>rfl
theorem Jq {sh:Sh}{a:AV}:aW hp n (.cp sh a)=some (.cp sh a):=by cases n<;>rfl
theorem Jo {k:Nat}{p:List Nat}{off len:Nat}:aW hp (n+1) (.sl k p off len)=(bn hp (.sl k p off len)).map fun c=>.lst false c.1 c.2:=rfl
def UW (hp:Hp)(n:Nat):Option Sh->Option AV->Option AV
 | some s,some x=>(aW hp n x).bind fun y=>if y.plain then some (.cp s y)else none
 | _,_=>none
def RA (hp:Hp)(n:Nat)(p:List Nat):Option OB->Option AV
 | some (.fix sh b)=>UW hp n (sh.sub p) (b.nav p)
 | _=>none
theorem FA {k:Nat}{p:List Nat}:aW hp (n+1) (.ptr k p)=RA hp n p (hp.get k):=by show(match hp.get k with|some (.fix sh b)=>_|_=>none)=_;rcases hp.get k with _|_|_|_<;>first|rfl|(simp only[RA];rcases Sh.sub _ _ with _|_<;>rcases AV.nav _ _ with _|_<;>rfl)
def Xc :Option (List AV)->Option AV
 | some l=>if AV.plains l then some (.agg l)else none
 | none=>none
theorem Cm {l:List AV}:aW hp (n+1) (.aggR l)=Xc (bw (aW hp n) l):=by show((bw (aW hp n) l).bind fun l'=>if AV.plains l' then some (AV.agg l')else none)=_;rcases bw (aW hp n) l with _|_<;>rfl
theorem Jp {f:Nat}{l:List AV}:aW hp (n+1) (.fn f l)=(bw (aW hp n) l).map (.fn f):=rfl
def PZ :Option AV->Option (List AV)->Option (List AV)
 | some a,some l=>some (a::l)
 | _,_=>none
theorem Fw {f:AV->Option AV}{a:AV}{l:List AV}:bw f (a::l)=PZ (f a) (bw f l):=by
 rw[bw];rcases f a with _|_
 . rfl
 . rcases bw f l with _|_<;>rfl
theorem De {a:AV}{l:List AV}:PZ (some a) (some l)=some (a::l):=rfl
theorem I5 {f:AV->Option AV}:bw f []=some []:=rfl
def MZ (args:List AV)(hp:Hp)(d:Nat):Option (AV×Hp×List OB)->Option (AV×Hp)
 | some (r,[],[])=>if AV.plains args||db r then some (r,[])else none
 | some (r,[],e::es)=>if AV.plains args||(db r&&(e::es).all gn)then(cv hp d 0 (e::es)).map fun us=>(rn d r,us)else none
 | _=>none
def Lu (cl:Cl)(hp:Hp)(d f:Nat)(args:List AV):Option (List AV)->Option (AV×Hp)
 | some as=>MZ args hp d (cl f as [])
 | none=>none
theorem K5 {cl:Cl}{d f:Nat}{args:List AV}:dg cl hp d f args .lend=Lu cl hp d f args (bw (aW hp 4) args):=by
 simp only[dg];rcases bw (aW hp 4) args with _|as
 . rfl
 . simp only[wG,Lu];rcases cl f as []with _|⟨r,_|⟨_,_⟩,_|⟨_,_⟩⟩<;>rfl
theorem Dj {cl:Cl}{d f:Nat}{args as:List AV}:Lu cl hp d f args (some as)=MZ args hp d (cl f as []):=rfl
theorem H7 {d:Nat}{args:List AV}{r:AV}:MZ args hp d (some (r,[],[]))=if AV.plains args||db r then some (r,[])else none:=rfl
theorem H9 {d:Nat}{args:List AV}{r:AV}{e:OB}{es:List OB}:MZ args hp d (some (r,[],e::es))=if AV.plains args||(db r&&(e::es).all gn)then(cv hp d 0 (e::es)).map fun us=>(rn d r,us)else none:=rfl
end
attribute [go_sem] BV zR BS BU E0 BT BW Fk gn
attribute [go_sem] KX yM yO pT yN K2 GH KZ af Opd.val Fr.get St.upd Fr.upd Hp.get aD bh AV.scalars AV.isAgg AV.kids Sh.sub Sh.agg AV.nav Sh.sizes Sh.size fQ Bw jg AV.mk AV.plains AV.plain AV.setNav
attribute [go_sem] Cb Dr FD Ck Fz NJ FF FC Jq Jo FA RA UW Cm Xc Jp Fw I5 De AV.known FK lq KW GC nk lB mW EZ HF pg Bt Dl lI Gw Ka Ib Ic Ia Aj xV B4 Dg Gr Ai xU IL An Ca Ao IF kr vals
attribute [go_sem] eY ki dR eX bn sub Sh.beq Sh.beqs
attribute [go_sem] wJ Option.map_none wG List.map wj wt List.headD List.tail List.take ite_true ite_false if_true if_false ws wk List.set_cons_zero List.set_cons_succ wr WF and_self and_true true_and Option.isNone_none Option.isNone_some Bool.and_true wD Bool.and_self decide_true List.replicate List.drop List.isEmpty_nil List.isEmpty_cons
attribute [go_sem] wT wU Int.natCast_nonneg Rn Ro Ul UZ P8 Uo Qv RV L6 RQ ML MQ OR RJ L2 OX Mj Ns Hk Nj MJ MP OQ RH L0 OW Mi Nr Hj Ni MI MO OP RG LZ OV Mh Nq Hi Nh fA wM BitVec.ofNat_toNat BitVec.setWidth_eq
def Lp (ks:List Kp):Option St->Option St
 | some st=>(pV ks st).bind (cJ ks)
 | none=>none
theorem OA {ks:List Kp}{st:St}:bT ks st=Lp ks (dC ks st):=by rw[bT];cases dC ks st<;>rfl
theorem Bo {ks:List Kp}{st:St}:Lp ks (some st)=(pV ks st).bind (cJ ks):=rfl
attribute [go_sem] K5 Dj H7 H9 db dN gn cv rn rns OA Bo pV dC cJ CY gK gX ct fC Jv pX zO fN rn1 qI jd sw Kp.keys Kp.owns Kp.ownSrc Kp.slotRefs eU gJ AV.refs AV.refss wu List.contains_nil List.contains_cons List.all_nil wp Bool.not_false wF Bool.or_true Bool.true_or Bool.or_false Bool.false_or
attribute [go_sem] Bq Br Az AA ge_iff_le gt_iff_lt we w0 w7 Int.cast_ofNat_Int Int.natCast_zero Int.natCast_one decide_false decide_true OM aH kj sw8 XJ XI XH p8
attribute [go_sem] GG Dh Bl cW FR Jx KY
attribute [go_sem] w5 w1 Int.toNat_natCast
attribute [go_sem] GD FP NN NQ NO NP FQ Ak B8 FN uV FZ F2 F0 F1 beq_self_eq_true
attribute [go_sem] oQ wx
attribute [go_sem] List.length_append eq_self
attribute [go_sem] T9 T8 Ua Ui Ud Ue Uf Ug Uh LA Ly Lz
theorem C8 {cl:Cl}{hp:Hp}{d f:Nat}{args:List AV}:dg cl hp d f args .imp=if f<RB then dq cl hp d f args (aZ hp (AV.refss args))else none:=by rw[dg]
theorem AL {hp hp':Hp}{d:Nat}{ks:List Nat}{r:AV}{es:List OB}:yC hp d ks (some (r,hp',es))=if bN hp' 0 ks.length then(mu hp ks d 0 es).map fun us=>(rA (dn ks d) r,dP ks d hp'++us)else none:=rfl
def mf (hp:Hp)(all:List Nat):List Nat->Bool
 | []=>true
 | k::l=>((hp.get k).isSome&&(er (hp.get k)).all all.contains)&&mf hp all l
def oq (hp:Hp)(all:List Nat):List Nat->List OB
 | []=>[]
 | k::l=>rOB (nm all) (jT hp k)::oq hp all l
def inL :List Nat->Bool
 | []=>true
 | k::l=>decide (SHK<=k)&&inL l
def IP :List Nat->Bool
 | []=>true
 | k::l=>decide (k<SHK)&&IP l
theorem qF (hp:Hp)(all:List Nat):∀l:List Nat,mf hp all l=l.all fun k=>(hp.get k).isSome&&(er (hp.get k)).all all.contains
 | []=>rfl
 | k::l=>by rw[mf,qF hp all l,wp]
theorem qp (hp:Hp)(all:List Nat):∀l:List Nat,oq hp all l=l.map fun k=>rOB (nm all) (jT hp k)
 | []=>rfl
 | k::l=>by rw[oq,qp hp all l,wv]
theorem Er :∀l:List Nat,inL l=l.all fun k=>decide (SHK<=k)
 | []=>rfl
 | k::l=>by rw[inL,Er l,wp]
theorem As :∀l:List Nat,IP l=l.all fun k=>decide (k<SHK)
 | []=>rfl
 | k::l=>by rw[IP,As l,wp]
theorem xn (hp:Hp)(ks:List Nat):dT hp ks=mf hp ks ks:=(qF hp ks ks).symm
theorem Nc (st:St)(hk:List Nat)(rs:List AV)(E:List Nat):fO st hk rs E =
  if mf st.hp (hk++E) (hk++E)&&(AV.refss rs).all (hk++E).contains&&dR (hk++E)&&inL hk&&IP E&&decide (E.length<1000)&&AV.knowns rs then
   some (rAs (nm E) rs,fK st.hp E hk,oq st.hp E E)
  else none:=by
 rw[fO,xn,Er,As,qp]
attribute [go_sem] mf oq inL IP
attribute [go_sem] RB C8 AL dq aZ eo xn er bO jT idx up dn rA rAs rOB iU dP bN mu SHK pW ksA js Gx Kc Gp Fx Nc eH Il eT fK nm sF AV.knowns Option.getD_some List.getD_cons_zero List.getD_cons_succ Option.isSome_some Option.isSome_none
end Go.Ev
namespace Go.Ev
open Go
noncomputable def lh (p:Nat->Prop):Nat->Nat
 | 0=>0
 | n+1=>by classical exact if lh p n<n then lh p n else if p n then n+1 else n
theorem oD (p:Nat->Prop):∀N,lh p N<=N/\(∀i,i<lh p N->p i)/\(lh p N<N->¬p (lh p N))
 | 0=>⟨w0 _,fun i h=>absurd h (wd _),fun h=>absurd h (wd _)⟩
 | n+1=>by
   obtain⟨h1,h2,h3⟩:=oD p n;rw[lh];split
   . rename_i h;exact⟨by omega,h2,fun _=>h3 h⟩
   . rename_i h;have e:lh p n=n:=by omega
     rw[e]at h2;split
     . rename_i hp;exact⟨by omega,fun i hi=>by by_cases hi':i=n;exact hi'▸hp;exact h2 i (by omega),fun h=>by omega⟩
     . rename_i hp;exact⟨by omega,h2,fun _=>hp⟩
theorem w64 {a:Int}(h:-9223372036854775808<=a/\a<=9223372036854775807):IntKind.wrap .i64 a=a:=nG h.1 h.2
theorem Lt (a b:Nat):((a+b:Nat):Int)=(a:Int)+(b:Int):=rfl
end Go.Ev
namespace Go.Ev
theorem V8 {a b:Int}(h:a=b):(a==b)=true:=by simp[h]
theorem V9 {a b:Int}(h:a<b\/b<a):(a==b)=false:=beq_eq_false_iff_ne.2 (by omega)
theorem V5 {a b:Int}(h:a<b\/b<a):(a != b)=true:=bne_iff_ne.2 (by omega)
theorem V6 {a b:Int}(h:a=b):(a != b)=false:=by simp[h]
end Go.Ev
namespace Go.Ev
theorem Qr {a b:Int}(h:0<=a/\0<=b):(a+b).toNat=a.toNat+b.toNat:=by omega
theorem Qq {a b:Int}(h:0<=a/\0<=b):(a*b).toNat=a.toNat * b.toNat:=Int.toNat_mul h.1 h.2
theorem Qo {a b:Int}(h:0<=b):(a-b).toNat=a.toNat-b.toNat:=by omega
theorem Qp :(1:Int).toNat=1:=rfl
theorem Md :(0:Int).toNat=0:=rfl
end Go.Ev
namespace Go.Ev
theorem Vn {a b:Nat}(h:a<b):(a<b)=True:=eq_true h
theorem Vo {a b:Nat}(h:b<=a):(a<b)=False:=eq_false (by omega)
theorem Vs {a b:Nat}(h:a<=b):(a<=b)=True:=eq_true h
theorem Vt {a b:Nat}(h:b<a):(a<=b)=False:=eq_false (by omega)
theorem Vp {a b:Int}(h:a<b):(a<b)=True:=eq_true h
theorem Vq {a b:Int}(h:b<=a):(a<b)=False:=eq_false (by omega)
theorem Vu {a b:Int}(h:a<=b):(a<=b)=True:=eq_true h
theorem Vv {a b:Int}(h:b<a):(a<=b)=False:=eq_false (by omega)
theorem VW {a b:Nat}(h:a=b):(a=b)=True:=eq_true h
theorem VX {a b:Nat}(h:a<b\/b<a):(a=b)=False:=eq_false (by omega)
theorem VY {a b:Int}(h:a=b):(a=b)=True:=eq_true h
theorem VZ {a b:Int}(h:a<b\/b<a):(a=b)=False:=eq_false (by omega)
end Go.Ev
namespace Go.Ev
open Go
end Go.Ev
namespace Go.Ev
open Go
theorem xx :(∀a b:Int,0<=a/\0<=b->(a+b).toNat=a.toNat+b.toNat)/\(∀a b:Int,0<=a/\0<=b->(a*b).toNat=a.toNat * b.toNat)/\(∀a b:Int,0<=b->(a-b).toNat=a.toNat-b.toNat) /\
  (1:Int).toNat=1/\(0:Int).toNat=0/\(∀a:Int,-9223372036854775808<=a/\a<=9223372036854775807->IntKind.wrap .i64 a=a) /\
  (∀a b:Nat,a<b->(a<b)=True)/\(∀a b:Nat,b<=a->(a<b)=False)/\(∀a b:Nat,a<=b->(a<=b)=True)/\(∀a b:Nat,b<a->(a<=b)=False) /\
  (∀a b:Int,a<b->(a<b)=True)/\(∀a b:Int,b<=a->(a<b)=False)/\(∀a b:Int,a<=b->(a<=b)=True)/\(∀a b:Int,b<a->(a<=b)=False) /\
  (∀a b:Nat,a=b->(a=b)=True)/\(∀a b:Nat,a<b\/b<a->(a=b)=False)/\(∀a b:Int,a=b->(a=b)=True)/\(∀a b:Int,a<b\/b<a->(a=b)=False) /\
  (∀a b:Int,a=b->(a==b)=true)/\(∀a b:Int,a<b\/b<a->(a==b)=false)/\(∀a b:Int,a<b\/b<a->(a != b)=true)/\(∀a b:Int,a=b->(a != b)=false) /\
  (∀a b:Nat,((a+b:Nat):Int)=(a:Int)+(b:Int)) :=
 ⟨fun _ _=>Qr,fun _ _=>Qq,fun _ _=>Qo,Qp,Md,fun _=>w64,fun _ _=>Vn,fun _ _=>Vo,fun _ _=>Vs,fun _ _=>Vt,
   fun _ _=>Vp,fun _ _=>Vq,fun _ _=>Vu,fun _ _=>Vv,fun _ _=>VW,fun _ _=>VX,fun _ _=>VY,fun _ _=>VZ,fun _ _=>V8,fun _ _=>V9,fun _ _=>V5,fun _ _=>V6,fun _ _=>Lt _ _⟩
end Go.Ev
namespace Go.Ev
open Go
section
variable {hp :Hp} {d:Option Nat} {q kk c:Nat} {z x y:AV} {es:List (AV×AV×Nat)} {ok:Bool} {k:IntKind} {n:Int} {i:Nat} {v:AV} {r:Option (Nat×AV)}
theorem UG :bC hp (some q) .mk kk z []=if(hp.get q).isNone then some (.mp q,[(q,.mp [] 0)])else none:=rfl
def Jh (ok:Bool)(z:AV):Bool->Option (Option (Nat×AV))->Option (AV×Hp)
 | true,some r=>some (sZ ok z r,[])
 | _,_=>none
def Jg (ok:Bool)(kk:Nat)(z x:AV):Option OB->Option (AV×Hp)
 | some (.mp es _)=>Jh ok z (cD kk x) (bQ x es)
 | _=>none
theorem MG :bC hp d (.look ok) kk z [.mp q,x]=Jg ok kk z x (hp.get q):=by
 simp only[bC];rcases hp.get q with _|_|_|_|_|_<;>try rfl
 rename_i es c;simp only[Jg];cases cD kk x<;>cases bQ x es<;>rfl
theorem Jf :Jg ok kk z x (some (.mp es c))=Jh ok z (cD kk x) (bQ x es):=rfl
theorem NG :Jh ok z true (some r)=some (sZ ok z r,[]):=rfl
theorem Ji :sZ true z (some (i,v))= .tup [v,.bool true]:=rfl
theorem Jk :sZ false z (some (i,v))=v:=rfl
theorem Jj :sZ true z none= .tup [z,.bool false]:=rfl
theorem Jl :sZ false z none=z:=rfl
def Qk (q:Nat)(x y:AV)(es:List (AV×AV×Nat))(c:Nat):Bool->Bool->Option (Option (Nat×AV))->Option (AV×Hp)
 | true,true,some r=>some (.unk,[(q,Ht es c x y r)])
 | _,_,_=>none
def Qi (q kk:Nat)(x y:AV):Option OB->Option (AV×Hp)
 | some (.mp es c)=>Qk q x y es c (cD kk x) y.kv (bQ x es)
 | _=>none
theorem Rb :bC hp d .upd kk z [.mp q,x,y]=Qi q kk x y (hp.get q):=by
 simp only[bC];rcases hp.get q with _|_|_|_|_|_<;>try rfl
 rename_i es c;simp only[Qi];cases cD kk x<;>cases y.kv<;>cases bQ x es<;>rfl
theorem Mc :Qi q kk x y (some (.mp es c))=Qk q x y es c (cD kk x) y.kv (bQ x es):=rfl
theorem Qj :Qk q x y es c true true (some r)=some (.unk,[(q,Ht es c x y r)]):=rfl
theorem Ql :Ht es c x y (some (i,v))= .mp (es.set i (x,y,oR es i)) c:=rfl
theorem Qm :Ht es c x y none= .mp (es++[(x,y,c)]) (c+1):=rfl
def TQ (q:Nat)(x z:AV)(es:List (AV×AV×Nat))(c:Nat):Bool->Option (Option (Nat×AV))->Option (AV×Hp)
 | true,some r=>some (K3 es c q x z r)
 | _,_=>none
def TO (q kk:Nat)(x z:AV):Option OB->Option (AV×Hp)
 | some (.mp es c)=>TQ q x z es c (cD kk x) (bQ x es)
 | _=>none
theorem Rh :bC hp d .ent kk z [.mp q,x]=TO q kk x z (hp.get q):=by
 simp only[bC];rcases hp.get q with _|_|_|_|_|_<;>try rfl
 rename_i es c;simp only[TO];cases cD kk x<;>cases bQ x es<;>rfl
theorem Ok :TO q kk x z (some (.mp es c))=TQ q x z es c (cD kk x) (bQ x es):=rfl
theorem TP :TQ q x z es c true (some r)=some (K3 es c q x z r):=rfl
theorem TR :K3 es c q x z (some (i,v))=(.tup [v,.int .i64 (oR es i)],[(q,.mp es c)]):=rfl
theorem TS :K3 es c q x z none=(.tup [z,.int .i64 c],[(q,.mp (es++[(x,z,c)]) (c+1))]):=rfl
def Qy (q:Nat)(y:AV)(es:List (AV×AV×Nat))(c:Nat):Bool->Option Nat->Option (AV×Hp)
 | true,some i=>some (.unk,[(q,.mp (BP es i y) c)])
 | _,_=>none
def Qw (q:Nat)(n:Int)(y:AV):Option OB->Option (AV×Hp)
 | some (.mp es c)=>Qy q y es c y.kv (pZ es n)
 | _=>none
theorem Rc :bC hp d .sto kk z [.mp q,.int k n,y]=Qw q n y (hp.get q):=by
 simp only[bC];rcases hp.get q with _|_|_|_|_|_<;>try rfl
 rename_i es c;simp only[Qw];cases y.kv<;>cases pZ es n<;>rfl
theorem Ml :Qw q n y (some (.mp es c))=Qy q y es c y.kv (pZ es n):=rfl
theorem Qx :Qy q y es c true (some i)=some (.unk,[(q,.mp (BP es i y) c)]):=rfl
def TW (q:Nat)(es:List (AV×AV×Nat))(c:Nat):Bool->Option (Option (Nat×AV))->Option (AV×Hp)
 | true,some r=>some (.tup [],[(q,.mp (Bj es r) c)])
 | _,_=>none
def TU (q kk:Nat)(x:AV):Option OB->Option (AV×Hp)
 | some (.mp es c)=>TW q es c (cD kk x) (bQ x es)
 | _=>none
theorem Ri :bC hp d .del kk z [.mp q,x]=TU q kk x (hp.get q):=by
 simp only[bC];rcases hp.get q with _|_|_|_|_|_<;>try rfl
 rename_i es c;simp only[TU];cases cD kk x<;>cases bQ x es<;>rfl
theorem Oo :TU q kk x (some (.mp es c))=TW q es c (cD kk x) (bQ x es):=rfl
theorem TV :TW q es c true (some r)=some (.tup [],[(q,.mp (Bj es r) c)]):=rfl
theorem TX :Bj es (some (i,v))=es.eraseIdx i:=rfl
theorem TY :Bj es none=es:=rfl
def Vr :Option OB->Option (AV×Hp)
 | some (.mp es _)=>some (.int .i64 es.length,[])
 | _=>none
theorem Re :bC hp d .len kk z [.mp q]=Vr (hp.get q):=by simp only[bC];rcases hp.get q with _|_|_|_|_|_<;>rfl
theorem NL :Vr (some (.mp es c))=some (.int .i64 es.length,[]):=rfl
theorem FJ :cD 0 (.int k n)=true:=rfl
theorem FI {l:List UInt8}:cD 1 (.str l)=true:=rfl
theorem Ju {k k':IntKind}{a b:Int}:cD 5 (.agg [.int k a,.int k' b])=true:=rfl
theorem Jt {k k' k'':IntKind}{a b c:Int}:cD 6 (.agg [.int k a,.int k' b,.int k'' c])=true:=rfl
theorem Sb :(AV.int k n).kv=true:=rfl
theorem Sa {l:List UInt8}:(AV.str l).kv=true:=rfl
theorem NM {b:Bool}:(AV.bool b).kv=true:=rfl
theorem E1 :(AV.mp q).scalar=true:=rfl
theorem IH :(AV.mp q).plain=false:=rfl
end
attribute [go_sem] UG MG Jf NG Ji Jk Jj Jl Rb Mc Qj Ql Qm Rh Ok TP TR TS Rc Ml Qx Ri Oo TV TX TY Re NL FJ Ju Jt FI Sb Sa NM E1 IH
def EW :Bool->Option AV->AV->Option AV
 | true,r,_=>r
 | false,_,y=>some y
theorem Qt {r:Option AV}{y:AV}:EW true r y=r:=rfl
theorem Qu {r:Option AV}{y:AV}:EW false r y=some y:=rfl
section
variable {gl :Gl} {cl:Cl} {st:St}
theorem FL {t:Bool}{blk:Its}{a b:Opd}:yv gl cl true t blk a b st=EW t (Cr gl a (bA gl cl blk st)) (b.val gl st.fr):=by cases t<;>rfl
theorem FM {t:Bool}{blk:Its}{a b:Opd}:yv gl cl false t blk a b st=EW (!t) (Cr gl b (bA gl cl blk st)) (a.val gl st.fr):=by cases t<;>rfl
theorem CA {d:Option Nat}{m:MOp}{w:Bool}{l:List FO}:iw gl cl d m w l st (.tup [])=cF gl cl l (st.upd d (.tup []) []):=rfl
end
theorem Hx {t x:Bool}:EW t (some (.bool x)) (.bool false)=some (.bool (t&&x)):=by cases t<;>rfl
theorem Mg {t x:Bool}:EW (!t) (some (.bool x)) (.bool true)=some (.bool (t||x)):=by cases t<;>rfl
attribute [go_sem] CA FL FM Qt Qu Hx Mg cond_true cond_false Bool.false_and Bool.and_false
theorem l4 {α:Type}{f:St->Option (Ex×St)}{ks:List Kp}(S:α->St)(Inv:α->Prop)(μ:α->Nat)(next:α->α)(go:α->Bool){a0:α}(hN:μ a0<LF)(hI:Inv a0)
  (hs:∀a,Inv a->go a=true->aK ks (f (S a))=some (S (next a))/\Inv (next a)/\μ (next a)<μ a) (he:∀a,Inv a->go a=false->oz (f (S a))=true) :
  ∃a,Inv a/\go a=false/\∀st,bT ks st=some (S a0)->fG f ks LF st=f (S a):=by
 have key:∀(m n:Nat) (a:α),μ a<=m->m<n->Inv a->∃a',Inv a'/\go a'=false/\∀st,bT ks st=some (S a)->fG f ks n st=f (S a'):=by
  intro m
  induction m with
  | zero =>
    intro n a hm hn hi;obtain⟨n,rfl⟩:∃k,n=k+1:=⟨n-1,by omega⟩
    cases hg:go a with
    | true=>obtain⟨_,_,h3⟩:=hs a hi hg;omega
    | false =>
      refine⟨a,hi,hg,fun st hc=> ?_⟩;have hx:=he a hi hg
      cases hf:f (S a)with
      | none=>rw[hf]at hx;cases hx
      | some r =>obtain⟨e,out⟩:=r;exact kY hc hf (by rw[hf]at hx;cases e<;>simp_all[oz])
  | succ m ih =>
    intro n a hm hn hi;obtain⟨n,rfl⟩:∃k,n=k+1:=⟨n-1,by omega⟩
    cases hg:go a with
    | true =>
      obtain⟨h1,h2,h3⟩:=hs a hi hg;unfold aK at h1;split at h1
      . rename_i st2 hf;obtain⟨a',g1,g2,g3⟩:=ih n (next a) (by omega) (by omega) h2;exact⟨a',g1,g2,fun st hc=>(pD hc hf).trans (g3 st2 h1)⟩
      . cases h1
    | false =>
      refine⟨a,hi,hg,fun st hc=> ?_⟩;have hx:=he a hi hg
      cases hf:f (S a)with
      | none=>rw[hf]at hx;cases hx
      | some r =>obtain⟨e,out⟩:=r;exact kY hc hf (by rw[hf]at hx;cases e<;>simp_all[oz])
 exact key (μ a0) LF a0 (w0 _) hN hI
theorem pE {f:St->Option (Ex×St)}{ks:List Kp}(S:Nat->St)(N:Nat)(p:Nat->Prop)(hN:N<LF)
  (hs:∀i,i<N->(∀j,j<i->p j)->p i->aK ks (f (S i))=some (S (i+1))) (hx:∀i,i<N->(∀j,j<i->p j)->¬p i->oz (f (S i))=true) (he:(∀j,j<N->p j)->oz (f (S N))=true) :
  ∃k,k<=N/\(∀j,j<k->p j)/\(k<N->¬p k)/\∀st,bT ks st=some (S 0)->fG f ks LF st=f (S k):=by
 obtain⟨h1,h2,h3⟩:=oD p N;refine⟨lh p N,h1,h2,h3,fun st h0=>aE S (lh p N) (by omega) h0 (fun i hi=>hs i (by omega) (fun j hj=>h2 j (by omega)) (h2 i hi)) ?_⟩;by_cases h:lh p N<N
 . exact hx _ h h2 (h3 h)
 . have e:lh p N=N:=by omega
   rw[e]at h2 ⊢;exact he h2
def sC (t:Nat)(r:Option (Ex×St)):Option (Ex×AV):=r.map fun r=>(r.1,r.2.fr.get t)
theorem Fm {t:Nat}{e:Ex}{st:St}:sC t (some (e,st))=some (e,st.fr.get t):=rfl
theorem Fo {t:Nat}{r:Option (Ex×St)}{v:AV}(h:sC t r=some (.ret,v)):oz r=true:=by
 obtain _|⟨e,st⟩:=r
 . cases h
 . simp only[sC,wJ,wH,Prod.mk.injEq]at h;rw[h.1];rfl
theorem ji {t:Nat}{r:Option (Ex×St)}{v:AV}(h:sC t r=some (.ret,v)):∃st,r=some (.ret,st)/\st.fr.get t=v:=by
 obtain _|⟨e,st⟩:=r
 . cases h
 . simp only[sC,wJ,wH,Prod.mk.injEq]at h;exact⟨st,by rw[h.1],h.2⟩
attribute [go_sem] Fm
def bB (gl:Gl)(cl:Cl)(need:List Nat):Nat->List (Nat×List Nat)->List FO->St->Option (St×List (Nat×List Nat))
 | _,acc,[],st=>some (st,acc)
 | i,acc,o::l,st =>
   match o.g with
   | none=>(af gl cl st o.d o.m).bind fun r=>bB gl cl need (i+1) (if need.contains i then(i,bz gl st o.m)::acc else acc) l (st.upd o.d r.1 r.2)
   | some (c,want) =>
     match st.fr.get c with
     | .bool t=>if t=want then(af gl cl st o.d o.m).bind fun r=>bB gl cl need (i+1) (if need.contains i then(i,bz gl st o.m)::acc else acc) l (st.upd o.d r.1 r.2)else bB gl cl need (i+1) acc l (st.upd o.d (.tup []) [])
     | .tup []=>bB gl cl need (i+1) acc l (st.upd o.d (.tup []) [])
     | _=>none
def lk :List (Nat×List Nat)->Nat->List Nat
 | [],_=>[]
 | p::r,j=>if p.1=j then p.2 else lk r j
def mH :List (Nat×Nat)->List Nat
 | []=>[]
 | p::r=>p.1::p.2::mH r
theorem vL :∀{prs:List (Nat×Nat)} {p:Nat×Nat},p∈prs->p.1∈mH prs/\p.2∈mH prs
 | _::r,p,h=>by
   rcases WG.1 h with rfl|h
   . simp[mH]
   . have:=vL h;simp[mH,this]
def Nt (need:List Nat)(i:Nat)(acc:List (Nat×List Nat))(ks:List (List Nat))(acc':List (Nat×List Nat)):Prop :=
 ∀j,need.contains j=true->lk acc' j=if i<=j/\lk acc j=[]then ks.getD (j-i) []else lk acc j
variable {gl :Gl} {cl:Cl} {st:St}
theorem tN {need:List Nat}:∀(l:List FO) (i:Nat) (acc:List (Nat×List Nat)) (st:St),(∀j,i<=j->lk acc j=[]) ->
  match cj gl cl l st,bB gl cl need i acc l st with
  | some (s,ks),some (s',acc')=>s=s'/\Nt need i acc ks acc'
  | none,none=>True
  | _,_=>False
 | [],i,acc,st,h=>by
   simp only[cj,bB];refine⟨trivial,fun j hj=> ?_⟩;split
   . rename_i h2;simp[h2.2]
   . rfl
 | o::l,i,acc,st,h=>by
   obtain⟨d,m,g⟩:=o;have step:∀(kk:List Nat) (st':St),match (cj gl cl l st').map (fun q=>(q.1,kk::q.2)),bB gl cl need (i+1) (if need.contains i then(i,kk)::acc else acc) l st' with
     | some (s,ks),some (s',acc')=>s=s'/\Nt need i acc ks acc'
     | none,none=>True
     | _,_=>False:=fun kk st'=>by
    have ih:=tN (need:=need) l (i+1) (if need.contains i then(i,kk)::acc else acc) st' (fun j hj=>by
     split
     . rw[lk,if_neg (show ¬i=j by omega)];exact h j (by omega)
     . exact h j (by omega))
    revert ih
    cases cj gl cl l st' with
    | none=>cases bB gl cl need (i+1) (if need.contains i then(i,kk)::acc else acc) l st'<;>exact id
    | some q =>
      cases bB gl cl need (i+1) (if need.contains i then(i,kk)::acc else acc) l st' with
      | none=>exact id
      | some q' =>
        rintro ⟨h1,h2⟩;refine⟨h1,fun j hj=> ?_⟩;rw[h2 j hj];by_cases hij:i=j
        . subst hij;rw[if_neg (by omega),hj,if_pos rfl,lk,if_pos rfl,if_pos ⟨w0 _,h i (w0 _)⟩,w6];rfl
        . have e:lk (if need.contains i then(i,kk)::acc else acc) j=lk acc j:=by
           split
           . rw[lk,if_neg hij]
           . rfl
          rw[e];by_cases h3:i<=j
          . have h4:=h j h3;rw[if_pos ⟨by omega,h4⟩,if_pos ⟨h3,h4⟩,show j-i=(j-(i+1))+1 by omega];rfl
          . rw[if_neg (by omega),if_neg (by omega)]
   have skip:∀(st':St),match (cj gl cl l st').map (fun q=>(q.1,([]:List Nat)::q.2)),bB gl cl need (i+1) acc l st' with
     | some (s,ks),some (s',acc')=>s=s'/\Nt need i acc ks acc'
     | none,none=>True
     | _,_=>False:=fun st'=>by
    have ih:=tN (need:=need) l (i+1) acc st' (fun j hj=>h j (by omega));revert ih
    cases cj gl cl l st' with
    | none=>cases bB gl cl need (i+1) acc l st'<;>exact id
    | some q =>
      cases bB gl cl need (i+1) acc l st' with
      | none=>exact id
      | some q' =>
        rintro ⟨h1,h2⟩;refine⟨h1,fun j hj=> ?_⟩;rw[h2 j hj];by_cases hij:i=j
        . subst hij;have h4:=h i (w0 _);rw[if_neg (by omega),if_pos ⟨w0 _,h4⟩,w6];exact h4
        . by_cases h3:i<=j
          . have h4:=h j h3;rw[if_pos ⟨by omega,h4⟩,if_pos ⟨h3,h4⟩,show j-i=(j-(i+1))+1 by omega];rfl
          . rw[if_neg (by omega),if_neg (by omega)]
   cases g with
   | none =>
     simp only[cj,bB]
     cases af gl cl st d m with
     | none=>trivial
     | some r=>exact step _ _
   | some p =>
     obtain⟨c,want⟩:=p;simp only[cj,bB]
     cases st.fr.get c with
     | bool t =>
       by_cases ht:t=want
       . simp only[ht,if_true]
         cases af gl cl st d m with
         | none=>trivial
         | some r=>exact step _ _
       . simp only[ht,if_false];exact skip _
     | tup r=>cases r with
       | nil=>exact skip _
       | cons=>trivial
     | _=>trivial
def xl (acc:List (Nat×List Nat)):List (Nat×Nat)->Bool
 | []=>true
 | p::r=>uX (lk acc p.1) (lk acc p.2)&&xl acc r
def Bg (prs:List (Nat×Nat)):Option (St×List (Nat×List Nat))->Option (Ex×St)
 | some (st,acc)=>if xl acc prs then some (.norm,st)else none
 | none=>none
def pQ (gl:Gl)(cl:Cl)(need:List Nat)(i:Nat)(acc:List (Nat×List Nat))(d:Option Nat)(m:MOp)(l:List FO)(st:St):Option (AV×Hp)->Option (St×List (Nat×List Nat))
 | some (v,us)=>bB gl cl need (i+1) (if need.contains i then(i,bz gl st m)::acc else acc) l (st.upd d v us)
 | none=>none
def e8 (gl:Gl)(cl:Cl)(need:List Nat)(i:Nat)(acc:List (Nat×List Nat))(d:Option Nat)(m:MOp)(w:Bool)(l:List FO)(st:St):AV->Option (St×List (Nat×List Nat))
 | .bool t=>if t=w then pQ gl cl need i acc d m l st (af gl cl st d m)else bB gl cl need (i+1) acc l (st.upd d (.tup []) [])
 | .tup []=>bB gl cl need (i+1) acc l (st.upd d (.tup []) [])
 | _=>none
theorem Bh {acc:List (Nat×List Nat)}{ks:List (List Nat)}{need:List Nat}(h:Nt need 0 [] ks acc):∀prs:List (Nat×Nat),(∀p∈prs,p.1∈need/\p.2∈need) ->
  xl acc prs=prs.all fun p=>uX (ks.getD p.1 []) (ks.getD p.2 [])
 | [],_=>rfl
 | p::r,hp=>by obtain⟨h1,h2⟩:=hp p (by simp);have e1:=h p.1 (by simpa using h1);have e2:=h p.2 (by simpa using h2);rw[if_pos ⟨w7 _,rfl⟩,wf]at e1 e2;rw[xl,wp,e1,e2,Bh h r fun q hq=>hp q (by simp[hq])]
theorem GF {l:List FO}{p:Nat×Nat}{prs:List (Nat×Nat)}:evC gl cl (.draw l (p::prs)) st=Bg (p::prs) (bB gl cl (mH (p::prs)) 0 [] l st):=by
 rw[evC];have h:=tN (gl:=gl) (cl:=cl) (need:=mH (p::prs)) l 0 [] st (fun _ _=>rfl);revert h
 cases cj gl cl l st with
 | none=>cases bB gl cl (mH (p::prs)) 0 [] l st<;>simp[Bg]
 | some q =>
   cases bB gl cl (mH (p::prs)) 0 [] l st with
   | none=>exact False.elim
   | some q' =>rintro ⟨h1,h2⟩;simp only[wG,Bg,Bh h2 _ fun x hx=>vL hx,h1]
section
variable {need :List Nat} {i:Nat} {acc:List (Nat×List Nat)} {d:Option Nat} {m:MOp} {l:List FO}
theorem Ba :bB gl cl need i acc [] st=some (st,acc):=by rw[bB]
theorem C5 :bB gl cl need i acc (⟨d,m,none⟩::l) st=pQ gl cl need i acc d m l st (af gl cl st d m):=by rw[bB];rcases af gl cl st d m with _|⟨_,_⟩<;>rfl
theorem uU {c:Nat}{w:Bool}:bB gl cl need i acc (⟨d,m,some (c,w)⟩::l) st=e8 gl cl need i acc d m w l st (st.fr.get c):=by
 rw[bB];simp only;generalize st.fr.get c=v
 cases v with
 | bool t =>
   simp only[e8];by_cases h:t=w
   . simp only[h,if_true];rcases af gl cl st d m with _|⟨_,_⟩<;>rfl
   . simp only[h,if_false]
 | tup l=>cases l<;>rfl
 | _=>rfl
theorem AZ {v:AV}{us:Hp}:pQ gl cl need i acc d m l st (some (v,us))=bB gl cl need (i+1) (if need.contains i then(i,bz gl st m)::acc else acc) l (st.upd d v us):=by rw[pQ]
theorem Cw :e8 gl cl need i acc d m true l st (.bool true)=pQ gl cl need i acc d m l st (af gl cl st d m):=by rw[e8,if_pos rfl]
theorem Cz :e8 gl cl need i acc d m false l st (.bool false)=pQ gl cl need i acc d m l st (af gl cl st d m):=by rw[e8,if_pos rfl]
theorem Cx :e8 gl cl need i acc d m true l st (.bool false)=bB gl cl need (i+1) acc l (st.upd d (.tup []) []):=by rw[e8,if_neg (by decide)]
theorem Cy :e8 gl cl need i acc d m false l st (.bool true)=bB gl cl need (i+1) acc l (st.upd d (.tup []) []):=by rw[e8,if_neg (by decide)]
theorem AN {w:Bool}:e8 gl cl need i acc d m w l st (.tup [])=bB gl cl need (i+1) acc l (st.upd d (.tup []) []):=by rw[e8]
theorem C7 {prs:List (Nat×Nat)}:Bg prs (some (st,acc))=if xl acc prs then some (.norm,st)else none:=by rw[Bg]
end
theorem R7 {j:Nat}:lk [] j=[]:=by rw[lk]
theorem NH {p:Nat×List Nat}{r:List (Nat×List Nat)}{j:Nat}:lk (p::r) j=if p.1=j then p.2 else lk r j:=by rw[lk]
theorem K9 {b:List Nat}:uX [] b=true:=rfl
theorem GO {a:Nat}{l b:List Nat}:uX (a::l) b=(!b.contains a&&uX l b):=rfl
attribute [go_sem] GF Ba C5 uU AZ Cw Cz Cx Cy AN C7 R7 NH xl K9 GO mH bz MOp.opds Option.toList
section
variable {gl :Gl} {cl:Cl} {st:St}
def rfE (fr:Fr)(hp:Hp)(kd:Nat):Option OB->Option (Ex×St)
 | some (.lp _ _ .ready)=>some (.norm,{fr,hp:=(kd,.dead)::hp})
 | some (.lp _ _ (.done e))=>some (e,{fr,hp:=(kd,.dead)::hp})
 | _=>none
def rfK (fr:Fr)(kd:Nat)(hp:Hp):Option (AV×Hp)->Option (Ex×St)
 | some (_,us)=>rfE fr (us++hp) kd (Hp.get (us++hp) kd)
 | none=>none
theorem C6 {rid:Nat}{g:Opd}{slots:List Nat}{kd dc:Nat}:evC gl cl (.rangeF rid g slots kd dc) st=GB cl rid slots kd dc st (g.val gl st.fr):=by rw[evC]
def jU (fr:Fr):List Nat->List AV
 | []=>[]
 | i::l=>fr.get i::jU fr l
theorem tD {fr:Fr}:∀{l:List Nat},l.map fr.get=jU fr l
 | []=>rfl
 | i::l=>by rw[wv,jU,tD]
theorem TZ {f:Nat}(h:f<2000000):cvF f=f:=if_pos h
theorem T0 {f:Nat}(h:2000000<=f):cvF f=f-2000000:=if_neg (wh.2 h)
theorem T1 {f:Nat}{a c:List AV}(h:f<2000000):cvA f a c=a++c:=if_pos h
theorem T2 {f:Nat}{a c:List AV}(h:2000000<=f):cvA f a c=c++a:=if_neg (wh.2 h)
theorem Oh {rid:Nat}{slots:List Nat}{kd dc h:Nat}{caps:List AV}:GB cl rid slots kd dc st (.fn h caps) =
  if(st.hp.get kd).isNone&&decide (kd<SHK)&&decide (h<RB)then rfK st.fr kd ((kd,.lp rid (jU st.fr slots) .ready)::st.hp) (dq cl ((kd,.lp rid (jU st.fr slots) .ready)::st.hp) dc h (.yld kd::caps) (aZ ((kd,.lp rid (jU st.fr slots) .ready)::st.hp) (kd::AV.refss caps)))else none:=by
 rw[GB,tD];split
 . cases dq cl ((kd,.lp rid (jU st.fr slots) .ready)::st.hp) dc h (.yld kd::caps) (aZ ((kd,.lp rid (jU st.fr slots) .ready)::st.hp) (kd::AV.refss caps))with
   | none=>rfl
   | some r=>simp only[wG,rfK,H5,rfE];rfl
 . rfl
theorem H4 {fr:Fr}{kd:Nat}{hp:Hp}{r:AV}{us:Hp}:rfK fr kd hp (some (r,us))=rfE fr (us++hp) kd (Hp.get (us++hp) kd):=by rw[rfK]
theorem Fb {fr:Fr}{hp:Hp}{kd rid:Nat}{vals:List AV}:rfE fr hp kd (some (.lp rid vals .ready))=some (.norm,{fr,hp:=(kd,.dead)::hp}):=by rw[rfE]
theorem H6 {fr:Fr}{hp:Hp}{kd rid:Nat}{vals:List AV}{e:Ex}:rfE fr hp kd (some (.lp rid vals (.done e)))=some (e,{fr,hp:=(kd,.dead)::hp}):=by rw[rfE]
def drK (cl:Cl)(hp:Hp)(d q:Nat)(args:List AV):Option OB->Option (AV×Hp)
 | some (.lp rid _ .ready)=>lR cl hp d q rid (aZ hp (q::AV.refss args)) (AV.refss args) (cg hp args)
 | _=>none
theorem GM {hp:Hp}{d q:Nat}{args:List AV}:gq cl hp d q args .imp=drK cl hp d q args (hp.get q):=by simp only[gq];rcases hp.get q with _|_|_|_|⟨_,_,_|_|_⟩<;>rfl
theorem GK {hp:Hp}{d q:Nat}{args:List AV}{rid:Nat}{vals:List AV}:drK cl hp d q args (some (.lp rid vals .ready))=lR cl hp d q rid (aZ hp (q::AV.refss args)) (AV.refss args) (cg hp args):=by rw[drK]
def SB (x:AV):Option (AV×List Nat)->AV×List Nat
 | some z=>z
 | none=>(x,[])
theorem Gv {hp:Hp}:cg hp []=([],[]):=rfl
def SC (a:AV×List Nat)(r:List AV×List Nat):List AV×List Nat:=(a.1::r.1,a.2++r.2)
theorem CX {hp:Hp}{x:AV}{l:List AV}:cg hp (x::l)=SC (SB x (gX hp x)) (cg hp l):=by cases h:gX hp x<;>simp[cg,SC,SB,h]
theorem N3 {x:AV}{k:List Nat}{l:List AV}{ks:List Nat}:SC (x,k) (l,ks)=(x::l,k++ks):=rfl
def uP (e:Ex):Option (List AV×Hp×List OB)->Option (AV×Hp×List OB)
 | some (_,hp,es)=>some (.bool (decide (e= .norm)),hp,es)
 | none=>none
def nX (ks:List Nat)(e:Ex)(st:St):Option OB->Option (AV×Hp×List OB)
 | some (.lp r v .busy)=>uP e (fO {fr:=st.fr,hp:=(SHK,.lp r v (if e= .norm then .ready else .done e))::st.hp} ks [] (eH {fr:=st.fr,hp:=(SHK,.lp r v (if e= .norm then .ready else .done e))::st.hp} ks []))
 | _=>none
def HU (ks:List Nat):Option (Ex×St)->Option (AV×Hp×List OB)
 | some (e,st)=>nX ks e st (Hp.get st.hp SHK)
 | none=>none
def Ae (gl:Gl)(cl:Cl)(body:MC)(ks:List Nat)(st:St):Option OB->Option (AV×Hp×List OB)
 | some (.lp r v .ready)=>HU ks (evC gl cl body {fr:=st.fr,hp:=(SHK,.lp r v .busy)::st.hp})
 | _=>none
def MY (gl:Gl)(cl:Cl)(body:MC)(ks:List Nat):Option (Ex×St)->Option (AV×Hp×List OB)
 | some (.norm,st)=>Ae gl cl body ks st (Hp.get st.hp SHK)
 | _=>none
theorem KV {params slots:List Nat}{as body:MC}{args:List AV}{q rid:Nat}{vals:List AV}{r:Hp}:lz params slots as body gl cl args ((q,.lp rid vals .ready)::r) =
  if decide (q=SHK)&&decide (args.length=params.length)&&dR params&&gR as&&gR body&& !cE as&& !cE body then
   MY gl cl body (q::eT r) (evC gl cl as {fr:=mw params args++mw slots vals,hp:=(q,.lp rid vals .ready)::r})else none:=by
 rw[lz];simp only;split
 . cases evC gl cl as {fr:=mw params args++mw slots vals,hp:=(q,.lp rid vals .ready)::r}with
   | none=>rfl
   | some a =>
     obtain⟨e,sa⟩:=a
     cases e with
     | norm =>
       simp only[wG,MY];rcases hk:Hp.get sa.hp SHK with _|_|_|_|⟨r1,v1,_|_|_⟩<;>simp only[Ae]
       cases evC gl cl body {fr:=sa.fr,hp:=(SHK,.lp r1 v1 .busy)::sa.hp}with
       | none=>rfl
       | some b =>obtain⟨eb,sb⟩:=b;simp only[wG,HU];rcases hk2:Hp.get sb.hp SHK with _|_|_|_|⟨r2,v2,_|_|_⟩<;>simp only[nX,eT];rcases fO _ _ _ _ with _|⟨_,_,_⟩<;>rfl
     | exit id=>rfl
     | ret=>rfl
 . rfl
theorem E8 {body:MC}{ks:List Nat}:MY gl cl body ks (some (.norm,st))=Ae gl cl body ks st (Hp.get st.hp SHK):=by rw[MY]
theorem Ad {body:MC}{ks:List Nat}{r:Nat}{v:List AV}:Ae gl cl body ks st (some (.lp r v .ready))=HU ks (evC gl cl body {fr:=st.fr,hp:=(SHK,.lp r v .busy)::st.hp}):=by rw[Ae]
theorem E6 {ks:List Nat}{e:Ex}:HU ks (some (e,st))=nX ks e st (Hp.get st.hp SHK):=by rw[HU]
theorem B0 {ks:List Nat}{r:Nat}{v:List AV}:nX ks .norm st (some (.lp r v .busy))=uP .norm (fO {fr:=st.fr,hp:=(SHK,.lp r v .ready)::st.hp} ks [] (eH {fr:=st.fr,hp:=(SHK,.lp r v .ready)::st.hp} ks [])):=by simp only[nX,if_true]
theorem E7 {ks:List Nat}{r:Nat}{v:List AV}:nX ks .ret st (some (.lp r v .busy))=uP .ret (fO {fr:=st.fr,hp:=(SHK,.lp r v (.done .ret))::st.hp} ks [] (eH {fr:=st.fr,hp:=(SHK,.lp r v (.done .ret))::st.hp} ks [])):=by simp only[nX,if_neg (show ¬Ex.ret= .norm by decide)]
theorem B1 {ks:List Nat}{r i:Nat}{v:List AV}:nX ks (.exit i) st (some (.lp r v .busy))=uP (.exit i) (fO {fr:=st.fr,hp:=(SHK,.lp r v (.done (.exit i)))::st.hp} ks [] (eH {fr:=st.fr,hp:=(SHK,.lp r v (.done (.exit i)))::st.hp} ks [])):=by simp only[nX,if_neg (show ¬Ex.exit i= .norm by simp)]
theorem E4 {l:List AV}{hp:Hp}{es:List OB}:uP .norm (some (l,hp,es))=some (.bool true,hp,es):=by simp[uP]
theorem HT {l:List AV}{hp:Hp}{es:List OB}:uP .ret (some (l,hp,es))=some (.bool false,hp,es):=by simp[uP]
theorem E5 {i:Nat}{l:List AV}{hp:Hp}{es:List OB}:uP (.exit i) (some (l,hp,es))=some (.bool false,hp,es):=by simp[uP]
attribute [go_sem] C6 Oh jU H4 Fb H6 GM GK lR Xd SB Gv CX N3 j1 TZ T0 T1 T2 KV E8 Ad E6 B0 E7 B1 E4 HT E5 mw gR qq ltO eM cE
end
theorem dL (k:Nat)(o:OB)(hp:Hp)(j:Nat):Hp.get ((k,o)::hp) j=if k=j then some o else Hp.get hp j:=rfl
def fE (κ:Nat->Nat):Nat->List (List AV)->List AV
 | _,[]=>[]
 | i,l::ls=>(if l.isEmpty then .lst true .sc []else .sl (κ i) [] 0 l.length)::fE κ (i+1) ls
def fH (sh:Sh)(κ:Nat->Nat):Nat->List (List AV)->Hp
 | _,[]=>[]
 | i,l::ls=>fH sh κ (i+1) ls++(if l.isEmpty then []else [(κ i,.grow sh l)])
def fP (κ:Nat->Nat)(base:Nat):Nat->List (List AV)->List (Nat×Nat)
 | _,[]=>[]
 | i,l::ls=>(if l.isEmpty then []else [(κ i,base+i)])++fP κ base (i+1) ls
def nE (ls:List (List AV))(i0 j:Nat):Prop:=∃l,i0<=j/\ls[j-i0]? =some l/\l.isEmpty=false
theorem iN {l:List AV}{ls:List (List AV)}{i:Nat}(h:l.isEmpty=false):nE (l::ls) i i:=⟨l,w0 _,by simp,h⟩
theorem eZ {l:List AV}{ls:List (List AV)}{i j:Nat}(h:nE ls (i+1) j):nE (l::ls) i j:=by obtain⟨m,h1,h2,h3⟩:=h;refine⟨m,by omega,?_,h3⟩;rw[show j-i=(j-(i+1))+1 by omega,wk];exact h2
theorem eG (κ:Nat->Nat):∀(i:Nat) (ls:List (List AV)),(fE κ i ls).length=ls.length
 | _,[]=>rfl
 | i,l::ls=>by rw[fE,wr,eG κ (i+1) ls,wr]
theorem tP (κ:Nat->Nat):∀(i:Nat) (ls:List (List AV)) (j:Nat),(fE κ i ls)[j]? =(ls[j]?).map fun l=>if l.isEmpty then .lst true .sc []else .sl (κ (i+j)) [] 0 l.length
 | _,[],j=>by simp[fE]
 | i,l::ls,0=>by simp[fE]
 | i,l::ls,j+1=>by rw[fE,wk,tP κ (i+1) ls j,wk,show i+1+j=i+(j+1) by omega]
theorem A9 {κ κ':Nat->Nat}:∀{i:Nat} {ls:List (List AV)},(∀j,nE ls i j->κ j=κ' j)->fE κ i ls=fE κ' i ls
 | _,[],_=>rfl
 | i,l::ls,h=>by
   rw[fE,fE,A9 fun j hj=>h j (eZ hj)]
   cases hl:l.isEmpty with
   | true=>rfl
   | false=>rw[h i (iN hl)]
theorem A8 {sh:Sh}{κ κ':Nat->Nat}:∀{i:Nat} {ls:List (List AV)},(∀j,nE ls i j->κ j=κ' j)->fH sh κ i ls=fH sh κ' i ls
 | _,[],_=>rfl
 | i,l::ls,h=>by
   rw[fH,fH,A8 fun j hj=>h j (eZ hj)]
   cases hl:l.isEmpty with
   | true=>rfl
   | false=>rw[h i (iN hl)]
theorem EA {κ:Nat->Nat}{base:Nat}:∀{i:Nat} {ls:List (List AV)},(∀j,nE ls i j->κ j<SHK)->GA (base+i) (fE κ i ls)=fP κ base i ls
 | _,[],_=>rfl
 | i,l::ls,h=>by
   have ih:=EA (κ:=κ) (base:=base) (i:=i+1) (ls:=ls) fun j hj=>h j (eZ hj)
   rw[fE,GA,fP,Nat.add_assoc,ih]
   cases hl:l.isEmpty with
   | true=>simp[zO]
   | false=>simp[zO,h i (iN hl)]
theorem tC {sh:Sh}{κ:Nat->Nat}{k:Nat}{r:Hp}:∀{i:Nat} {ls:List (List AV)},(∀j,nE ls i j->κ j≠k)->Hp.get (fH sh κ i ls++r) k=Hp.get r k
 | _,[],_=>rfl
 | i,l::ls,h=>by
   rw[fH,wm,tC fun j hj=>h j (eZ hj)]
   cases hl:l.isEmpty with
   | true=>rfl
   | false =>show Hp.get ((κ i,_)::r) k=_;rw[dL,if_neg (h i (iN hl))]
theorem v7 {sh:Sh}{κ:Nat->Nat}{r:Hp}:∀{i:Nat} {ls:List (List AV)} {j:Nat} {l:List AV},(∀a b,nE ls i a->nE ls i b->κ a=κ b->a=b)->ls[j]? =some l->l.isEmpty=false->Hp.get (fH sh κ i ls++r) (κ (i+j))=some (.grow sh l)
 | _,[],_,_,_,h,_=>by simp at h
 | i,l::ls,0,m,hi,h,he=>by
   simp only[ws,wH]at h;subst h;rw[fH,wm,tC fun j hj e=>by
    have:=hi j i (eZ hj) (iN he) e;obtain⟨_,h1,_⟩:=hj;omega]
   simp[he,dL]
 | i,l::ls,j+1,m,hi,h,he=>by rw[fH,wm,show i+(j+1)=(i+1)+j by omega];exact v7 (fun a b ha hb=>hi a b (eZ ha) (eZ hb)) (by simpa using h) he
theorem pC {st:St}{sh:Sh}{κ:Nat->Nat}{base:Nat}{rest:List Kp}:∀{i:Nat} {ls:List (List AV)} {acc:St},(∀j l,ls[j]? =some l->l.isEmpty=false->st.hp.get (κ (i+j))=some (.grow sh l)) ->
  eU st (dS (fP κ base i ls)++rest) acc=eU st rest {acc with hp:=fH sh κ i ls++acc.hp}
 | _,[],acc,_=>rfl
 | i,l::ls,acc,h=>by
   have ht:∀j m,ls[j]? =some m->m.isEmpty=false->st.hp.get (κ ((i+1)+j))=some (.grow sh m):=fun j m h1 h2=>by
    have:=h (j+1) m (by simpa using h1) h2
    rwa [show i+(j+1)=(i+1)+j by omega]at this
   cases hl:l.isEmpty with
   | true =>rw[fP,hl,fH,hl];simp only[if_true,wt,wu];exact pC ht
   | false =>have h0:=h 0 l rfl hl;rw[w1]at h0;rw[fP,hl,fH,hl];simp only[wC,if_false];show eU st (.key (κ i)::(dS (fP κ base (i+1) ls)++rest)) acc=_;rw[eU,gJ,h0];simp only[wG];rw[pC ht];simp only[wm,wn]
mutual
theorem Iy {ρ:Nat->Nat}:∀(a:AV),(∀j∈a.refs,ρ j=j)->rA ρ a=a
 | .sl k p o l,h=>by rw[rA,h k (by simp[AV.refs])]
 | .ptr k p,h=>by rw[rA,h k (by simp[AV.refs])]
 | .arp k p o n,h=>by rw[rA,h k (by simp[AV.refs])]
 | .yld k,h=>by rw[rA,h k (by simp[AV.refs])]
 | .mp k,h=>by rw[rA,h k (by simp[AV.refs])]
 | .aggR l,h=>by rw[rA,sk l (by rwa [AV.refs]at h)]
 | .tup l,h=>by rw[rA,sk l (by rwa [AV.refs]at h)]
 | .fn f l,h=>by rw[rA,sk l (by rwa [AV.refs]at h)]
 | .unk,_=>rfl
 | .bool _,_=>rfl
 | .int _ _,_=>rfl
 | .str _,_=>rfl
 | .s _,_=>rfl
 | .agg _,_=>rfl
 | .lst _ _ _,_=>rfl
 | .cp _ _,_=>rfl
theorem sk {ρ:Nat->Nat}:∀(l:List AV),(∀j∈AV.refss l,ρ j=j)->rAs ρ l=l
 | [],_=>rfl
 | a::l,h=>by rw[AV.refss]at h;rw[rAs,Iy a fun j hj=>h j (by simp[hj]),sk l fun j hj=>h j (by simp[hj])]
end
theorem qY {ρ:Nat->Nat}:∀(l:List NE),(∀j∈dE l,ρ j=j)->kq ρ l=l
 | [],_=>rfl
 | .nm k n::l,h=>by rw[kq,rNE,h k (by simp[dE]),qY l fun j hj=>h j (by simp[dE,hj])]
 | .gone::l,h=>by rw[kq,rNE,qY l fun j hj=>h j (by simpa[dE]using hj)];all_goals (intros;contradiction)
 | .own a::l,h=>by rw[kq,rNE,qY l fun j hj=>h j (by simpa[dE]using hj)];all_goals (intros;contradiction)
theorem Ry {ρ:Nat->Nat}{o:OB}(h:∀j∈bO o,ρ j=j):rOB ρ o=o:=by
 cases o with
 | fix sh a=>rw[rOB,Iy a h]
 | lp r v s=>rw[rOB,sk v h]
 | nest els=>rw[rOB,qY els h]
 | _=>rfl
def okF (X:List Nat):Fr->Bool
 | []=>true
 | .set _ v::r=>v.refs.all X.contains&&okF X r
 | .clr _ _::r=>okF X r
def okH (X:List Nat):Hp->Bool
 | []=>true
 | (k,o)::r=>X.contains k&&(bO o).all X.contains&&okH X r
theorem xD {X:List Nat}{k q j:Nat}(hk:k∉X)(hq:q∉X)(hj:j∈X):sw k q j=j:=by
 have h1:¬j=k:=fun e=>hk (e▸hj)
 have h2:¬j=q:=fun e=>hq (e▸hj)
 unfold sw;rw[if_neg h1,if_neg h2]
theorem xR {X:List Nat}{k q:Nat}(hk:k∉X)(hq:q∉X):∀{fr:Fr},okF X fr=true->qI k q fr=fr
 | [],_=>rfl
 | .set i v::r,h=>by simp only[okF,wE,wy]at h;rw[qI,xR hk hq h.2,Iy v fun j hj=>xD hk hq (wo.1 (h.1 j hj))]
 | .clr a b::r,h=>by have:=xR hk hq (fr:=r) h;show FE.clr a b::qI k q r=_;rw[this]
theorem qV {X:List Nat}{k q:Nat}(hk:k∉X)(hq:q∉X):∀{hp:Hp},okH X hp=true->jd k q hp=hp
 | [],_=>rfl
 | (j,o)::r,h=>by simp only[okH,wE,wy]at h;rw[jd,qV hk hq h.2,xD hk hq (wo.1 h.1.1),Ry fun i hi=>xD hk hq (wo.1 (h.1.2 i hi))]
theorem kN (k q:Nat):∀(a b:Hp),jd k q (a++b)=jd k q a++jd k q b
 | [],b=>rfl
 | (j,o)::a,b=>by rw[wj,jd,kN k q a b,jd];rfl
theorem D1 (sh:Sh)(κ:Nat->Nat)(k q:Nat):∀(i:Nat) (ls:List (List AV)),jd k q (fH sh κ i ls)=fH sh (fun j=>sw k q (κ j)) i ls
 | _,[]=>rfl
 | i,l::ls=>by rw[fH,kN,D1 sh κ k q (i+1) ls,fH];cases l.isEmpty<;>rfl
theorem It (κ:Nat->Nat)(k q:Nat):∀(i:Nat) (ls:List (List AV)),rAs (sw k q) (fE κ i ls)=fE (fun j=>sw k q (κ j)) i ls
 | _,[]=>rfl
 | i,l::ls=>by rw[fE,rAs,It κ k q (i+1) ls,fE];cases l.isEmpty<;>rfl
def fT (fr:Fr)(A B C:Hp)(q0 N:Nat)(sh:Sh)(κ:Nat->Nat)(ls:List (List AV)):St :=
 {fr:=fr,hp:=A++(fH sh κ 0 ls++(B++((q0,.fix (.ar N .sc) (.aggR (fE κ 0 ls)))::C)))}
theorem oJ {fr:Fr}{A B C:Hp}{q0 N:Nat}{sh:Sh}{κ κ':Nat->Nat}{ls:List (List AV)}(h:∀j,nE ls 0 j->κ j=κ' j):fT fr A B C q0 N sh κ ls=fT fr A B C q0 N sh κ' ls:=by unfold fT;rw[A8 h,A9 h]
section
variable {fr :Fr} {A B C:Hp} {q0 N:Nat} {sh:Sh} {ls:List (List AV)} {X:List Nat} {base:Nat}
 (h0:q0∈X) (hF:okF X fr=true) (hA:okH X A=true) (hB:okH X B=true) (hC:okH X C=true)
include h0 hF hA hB hC
theorem UN {κ:Nat->Nat}{k q:Nat}(hk:k∉X)(hq:q∉X)(hlt:k<SHK/\q<SHK):rn1 q (fT fr A B C q0 N sh κ ls) (some k)=some (fT fr A B C q0 N sh (fun j=>sw k q (κ j)) ls):=by
 unfold rn1;by_cases e:k=q
 . subst e;simp only[if_true,wH];exact oJ fun j _=>by unfold sw;split<;>simp_all
 . simp only[if_neg e,if_pos hlt,fT,wH];rw[xR hk hq hF,kN,kN,kN,qV hk hq hA,qV hk hq hB,D1,jd,qV hk hq hC,xD hk hq h0,rOB,rA,It]
theorem H0 (hX:∀x∈X,∀j,j<ls.length->x≠base+j)(hb:base+ls.length<SHK){κ:Nat->Nat}(hκ:∀j,nE ls 0 j->κ j=base+j\/κ j<base)(hκX:∀j,nE ls 0 j->κ j∉X)(hinj:∀a b,nE ls 0 a->nE ls 0 b->κ a=κ b->a=b) :
  iK (fP κ base 0 ls) (fT fr A B C q0 N sh κ ls)=some (fT fr A B C q0 N sh (fun j=>base+j) ls):=by
 have key:∀(tl:List (List AV)) (m:Nat),(∀j,tl[j]? =ls[m+j]?)->m+tl.length=ls.length ->
   iK (fP κ base m tl) (fT fr A B C q0 N sh (fun j=>if j<m then base+j else κ j) ls)=some (fT fr A B C q0 N sh (fun j=>base+j) ls):=by
  intro tl
  induction tl with
  | nil =>
    intro m _ hl;simp only[WF,w1]at hl;rw[fP,iK]
    congr 1
    refine oJ fun j hj=> ?_
    obtain⟨l,_,h2,_⟩:=hj;have:j<ls.length:=by have:=(WD.1 h2).1;omega
    rw[if_pos (by omega)]
  | cons l tl ih =>
    intro m hget hl;have hm:ls[m]? =some l:=by have:=hget 0;simpa using this.symm
    have ih':=ih (m+1) (fun j=>by have:=hget (j+1);rw[wk]at this;rw[this];congr 1;omega) (by rw[wr]at hl;omega);rw[fP]
    cases hle:l.isEmpty with
    | true =>
      simp only[if_true,wt];rw[<-ih']
      congr 1
      refine oJ fun j hj=> ?_
      by_cases e:j=m
      . exfalso;obtain⟨l',_,h2,h3⟩:=hj;rw[wf,e,hm]at h2;cases h2;rw[hle]at h3;cases h3
      . by_cases e2:j<m
        . rw[if_pos e2,if_pos (by omega)]
        . rw[if_neg e2,if_neg (by omega)]
    | false =>
      have hnm:nE ls 0 m:=⟨l,w7 _,by simpa using hm,hle⟩;have hlt:m<ls.length:=by rw[<-hl];simp
      simp only[wC,if_false,wn];rw[iK];simp only;have hk:=hκX m hnm;have hq:base+m∉X:=fun h=>hX _ h m hlt rfl
      have hks:κ m<SHK:=by rcases hκ m hnm with e|e<;>omega
      rw[UN h0 hF hA hB hC hk hq ⟨hks,by omega⟩];simp only[wG];rw[<-ih']
      congr 1
      refine oJ fun j hj=> ?_
      by_cases e:j=m
      . subst e;rw[if_neg (we _),if_pos (Nat.lt_succ_self _)];unfold sw;rw[if_pos rfl]
      . by_cases e2:j<m
        . rw[if_pos e2,if_pos (by omega)];unfold sw;rw[if_neg,if_neg (by omega)];rcases hκ m hnm with e3|e3
          . omega
          . omega
        . rw[if_neg e2,if_neg (by omega)];unfold sw;rw[if_neg (fun e3=>e (hinj _ _ hj hnm e3)),if_neg];rcases hκ j hj with e3|e3<;>omega
 have:=key ls 0 (fun j=>by rw[w5]) (by omega);rw[<-this]
 congr 1
end
theorem vR {st:St}:∀(a b:List Kp) (acc:St),eU st (a++b) acc=(eU st a acc).bind (eU st b)
 | [],b,acc=>rfl
 | x::a,b,acc=>by
   rw[wj,eU,eU]
   cases gJ st acc x with
   | none=>rfl
   | some s=>simp only[wG];exact vR a b s
theorem tj :∀(a b:List Kp),Kp.keys (a++b)=Kp.keys a++Kp.keys b
 | [],b=>rfl
 | x::a,b=>by cases x<;>simp[Kp.keys,tj a b]
theorem sA :∀(a b:List Kp),Kp.owns (a++b)=Kp.owns a++Kp.owns b
 | [],b=>rfl
 | x::a,b=>by cases x<;>simp[Kp.owns,sA a b]
theorem mU (st:St):∀(a b:List Kp),Kp.ownSrc st (a++b)=Kp.ownSrc st a++Kp.ownSrc st b
 | [],b=>rfl
 | x::a,b=>by cases x<;>simp[Kp.ownSrc,mU st a b]
theorem jy (st:St):∀(a b:List Kp),Kp.slotRefs st (a++b)=Kp.slotRefs st a++Kp.slotRefs st b
 | [],b=>rfl
 | x::a,b=>by cases x<;>simp[Kp.slotRefs,jy st a b]
theorem oh (hp:Hp):∀(a b:List Kp),fC hp (a++b)=fC hp a++fC hp b
 | [],b=>rfl
 | x::a,b=>by
   cases x with
   | mv q p k =>simp only[wj,fC,oh hp a b];cases pX hp q p<;>rfl
   | nst q p =>simp only[wj,fC,oh hp a b];cases jj hp q p<;>rfl
   | _=>simp[fC,oh hp a b]
theorem kM (hp:Hp):∀(a b:List Kp) (s:St),fN hp (a++b) s=(fN hp a s).bind (fN hp b)
 | [],b,s=>rfl
 | x::a,b,s=>by
   cases x with
   | mv q p k =>
     simp only[wj,fN]
     cases rn1 k s (pX hp q p)with
     | none=>rfl
     | some t=>simp only[wG];exact kM hp a b t
   | fam q k =>
     simp only[wj,fN]
     cases iK (mL hp q k) s with
     | none=>rfl
     | some t=>simp only[wG];exact kM hp a b t
   | nst q k =>
     simp only[wj,fN]
     cases rn1 k s (jj hp q k)with
     | none=>rfl
     | some t=>simp only[wG];exact kM hp a b t
   | _=>simpa[fN]using kM hp a b s
theorem jW :∀(a b:List Kp) (s:St),cJ (a++b) s=(cJ a s).bind (cJ b)
 | [],b,s=>rfl
 | x::a,b,s=>by
   cases x with
   | frz q p =>
     simp only[wj,cJ]
     cases CY s q p with
     | none=>rfl
     | some t=>simp only[wG];exact jW a b t
   | frs i =>
     simp only[wj,cJ]
     cases Gs s i with
     | none=>rfl
     | some t=>simp only[wG];exact jW a b t
   | _=>simpa[cJ]using jW a b s
theorem nA :∀(a b:List Kp) (s:St),dC (a++b) s=(dC a s).bind (dC b)
 | [],b,s=>rfl
 | x::a,b,s=>by
   cases x with
   | nst q p =>
     simp only[wj,dC]
     cases j4 s q with
     | none=>rfl
     | some t=>simp only[wG];exact nA a b t
   | _=>simpa[dC]using nA a b s
theorem Cp (ps:List (Nat×Nat)):Kp.keys (dS ps)=ps.map (·.1):=by
 induction ps with
 | nil=>rfl
 | cons p ps ih =>show Kp.keys (.key p.1::dS ps)=_;rw[Kp.keys,ih];rfl
theorem Co (ps:List (Nat×Nat)):Kp.owns (dS ps)=[]:=by
 induction ps with
 | nil=>rfl
 | cons p ps ih=>exact ih
theorem yr (st:St)(ps:List (Nat×Nat)):Kp.ownSrc st (dS ps)=[]:=by
 induction ps with
 | nil=>rfl
 | cons p ps ih=>exact ih
theorem pS {κ:Nat->Nat}{base:Nat}:∀{i:Nat} {ls:List (List AV)} {k:Nat},k∈(fP κ base i ls).map (·.1)↔∃j,nE ls i j/\k=κ j
 | i,[],k=>by simp[fP,nE]
 | i,l::ls,k=>by
   rw[fP,WA,wi,pS];constructor
   . rintro (h|⟨j,h1,h2⟩)
     . cases hl:l.isEmpty with
       | true=>rw[hl]at h;simp at h
       | false=>rw[hl]at h;simp at h;exact⟨i,iN hl,h⟩
     . exact⟨j,eZ h1,h2⟩
   . rintro ⟨j,⟨m,h1,h2,h3⟩,rfl⟩;by_cases e:j=i
     . subst e;rw[w6,ws]at h2;cases h2;left;simp[h3]
     . refine .inr ⟨j,⟨m,by omega,?_,h3⟩,rfl⟩;rw[show j-i=(j-(i+1))+1 by omega,wk]at h2;exact h2
theorem A7 {κ:Nat->Nat}{base:Nat}:∀{i:Nat} {ls:List (List AV)},(∀a b,nE ls i a->nE ls i b->κ a=κ b->a=b)->((fP κ base i ls).map (·.1)).Nodup
 | i,[],_=>by simp[fP]
 | i,l::ls,h=>by
   have ih:=A7 (κ:=κ) (base:=base) (i:=i+1) (ls:=ls) fun a b ha hb=>h a b (eZ ha) (eZ hb)
   rw[fP,WA]
   cases hl:l.isEmpty with
   | true=>simpa using ih
   | false =>simp only[wC,if_false,wv,List.map_nil,wn,List.nodup_cons];refine⟨fun hm=> ?_,ih⟩;obtain⟨j,hj,e⟩:=pS.1 hm;have:=h i j (iN hl) (eZ hj) e;obtain⟨_,h1,_⟩:=hj;omega
theorem sJ :∀{l:List Nat},dR l=true↔l.Nodup
 | []=>by simp[dR]
 | a::l=>by simp[dR,sJ (l:=l)]
theorem oI {st:St}{sh:Sh}{κ:Nat->Nat}{base:Nat}:∀{i:Nat} {ls:List (List AV)},(∀j l,ls[j]? =some l->l.isEmpty=false->st.hp.get (κ (i+j))=some (.grow sh l))->Kp.slotRefs st (dS (fP κ base i ls))=[]
 | _,[],_=>rfl
 | i,l::ls,h=>by
   have ih:=oI (st:=st) (sh:=sh) (κ:=κ) (base:=base) (i:=i+1) (ls:=ls) fun j m h1 h2=>by
    have:=h (j+1) m (by simpa using h1) h2
    rwa [show i+(j+1)=(i+1)+j by omega]at this
   rw[fP]
   cases hl:l.isEmpty with
   | true=>simpa using ih
   | false =>have h0:=h 0 l rfl hl;rw[w1]at h0;simp only[wC,if_false,wn];show Kp.slotRefs st (.key (κ i)::dS (fP κ base (i+1) ls))=[];rw[Kp.slotRefs,ih,h0];rfl
theorem ui {st:St}{ks0 bg:List Kp}{q0 base N:Nat}{sh:Sh}{κ:Nat->Nat}{ls:List (List AV)}{fr:Fr}{A B C:Hp}{X:List Nat}
  (k1:fC st.hp ks0=ks0) (k2:Kp.owns ks0=[]) (k2':Kp.ownSrc st ks0=[])
  (k3:eU st ks0 {fr:=[],hp:=[]}=some {fr:=fr,hp:=B++(q0,.fix (.ar N .sc) (.aggR (fE κ 0 ls)))::C})
  (k4:js st.hp 64 0=bg) (k5:∀s:St,eU st bg s=some {fr:=s.fr,hp:=A++s.hp}) (k6:Kp.owns bg=[]) (k6':Kp.ownSrc st bg=[])
  (k7:dR (Kp.keys ks0++Kp.keys bg)=true) (k8:∀k∈Kp.keys ks0++Kp.keys bg,k∈X)
  (k9:∀k∈Kp.slotRefs st ks0++Kp.slotRefs st bg,k∈Kp.keys ks0++Kp.keys bg\/∃j,nE ls 0 j/\k=κ j)
  (k10:∀s,fN st.hp ks0 s=some s) (k11:∀s,cJ ks0 s=some s) (k12:∀s,dC ks0 s=some s)
  (hq0:st.hp.get q0=some (.fix (.ar N .sc) (.aggR (fE κ 0 ls)))) (hget:∀j l,ls[j]? =some l->l.isEmpty=false->st.hp.get (κ j)=some (.grow sh l))
  (h0:q0∈X) (hF:okF X fr=true) (hA:okH X A=true) (hB:okH X B=true) (hC:okH X C=true)
  (hX:∀x∈X,∀j,j<ls.length->x≠base+j) (hb:base+ls.length<SHK) (hκ:∀j,nE ls 0 j->κ j=base+j\/κ j<base) (hκX:∀j,nE ls 0 j->κ j∉X) (hinj:∀a b,nE ls 0 a->nE ls 0 b->κ a=κ b->a=b) :
  ∀tl:List Kp,(∀hp,fC hp tl=[])->(∀hp s,fN hp tl s=some s)->(∀s,dC tl s=some s)->bT (ks0++.fam q0 base::tl) st=cJ tl (fT fr A B C q0 N sh (fun j=>base+j) ls):=by
 intro tl t1 t2 t3;have hlt:∀j,nE ls 0 j->κ j<SHK:=fun j hj=>by
  have:j<ls.length:=by obtain⟨l,_,h2,_⟩:=hj;have:=(WD.1 h2).1;omega
  rcases hκ j hj with e|e<;>omega
 have hfam:mL st.hp q0 base=fP κ base 0 ls:=by unfold mL;rw[hq0];exact EA (i:=0) hlt
 have hget':∀j l,ls[j]? =some l->l.isEmpty=false->st.hp.get (κ (0+j))=some (.grow sh l):=fun j l h1 h2=>by rw[w5];exact hget j l h1 h2
 have hmv:fC st.hp (ks0++.fam q0 base::tl)=ks0++dS (fP κ base 0 ls):=by rw[oh,k1];show ks0++(dS (mL st.hp q0 base)++fC st.hp tl)=_;rw[hfam,t1,wu]
 have hks:ksA (fC st.hp (ks0++.fam q0 base::tl)) st=ks0++(dS (fP κ base 0 ls)++bg):=by unfold ksA;rw[hmv,k4,wm]
 have hkeys:Kp.keys (ks0++(dS (fP κ base 0 ls)++bg))=Kp.keys ks0++((fP κ base 0 ls).map (·.1)++Kp.keys bg):=by rw[tj,tj,Cp]
 have howns:Kp.owns (ks0++(dS (fP κ base 0 ls)++bg))=[]:=by rw[sA,sA,k2,Co,k6];rfl
 have hsrc:Kp.ownSrc st (ks0++(dS (fP κ base 0 ls)++bg))=[]:=by rw[mU,mU,k2',yr,k6'];rfl
 have hnd:dR (Kp.keys ks0++((fP κ base 0 ls).map (·.1)++Kp.keys bg))=true:=by
  rw[sJ]at k7 ⊢;have d1:=ww.1 k7;have dis:∀a∈Kp.keys ks0++Kp.keys bg,∀b∈(fP κ base 0 ls).map (·.1),a≠b:=fun a ha b hb e=>by obtain⟨j,hj,rfl⟩:=pS.1 hb;exact hκX j hj (e▸k8 a ha)
  rw[ww];refine⟨d1.1,ww.2 ⟨A7 hinj,d1.2.1,fun a ha b hb e=>dis b (wi.2 (.inr hb)) a ha e.symm⟩,fun a ha b hb=> ?_⟩;rcases wi.1 hb with hb|hb
  . exact dis a (wi.2 (.inl ha)) b hb
  . exact d1.2.2 a ha b hb
 have hrefs:(Kp.slotRefs st (ks0++(dS (fP κ base 0 ls)++bg))).all (fun k=>(Kp.keys (ks0++(dS (fP κ base 0 ls)++bg))).contains k)=true:=by
  rw[wy];intro k hk;rw[jy,jy,oI hget',wt]at hk;rw[hkeys,wo];rcases k9 k hk with h|⟨j,hj,rfl⟩
  . rcases wi.1 h with h|h
    . exact wi.2 (.inl h)
    . exact wi.2 (.inr (wi.2 (.inr h)))
  . exact wi.2 (.inr (wi.2 (.inl (pS.2 ⟨j,hj,rfl⟩))))
 have hkp:eU st (ks0++(dS (fP κ base 0 ls)++bg)) {fr:=[],hp:=[]}=some (fT fr A B C q0 N sh κ ls):=by rw[vR,k3];simp only[wG];rw[pC hget',k5];rfl
 have hc0:pW (ksA (fC st.hp (ks0++.fam q0 base::tl)) st) st=some (fT fr A B C q0 N sh κ ls):=by unfold pW;rw[hks,howns,hsrc,wu,hkeys,hnd];rw[hkeys]at hrefs;rw[hrefs];exact hkp
 unfold bT pV;rw[nA,k12];simp only[wG,dC,t3];rw[hc0];simp only[wG];rw[kM,k10];simp only[wG,fN,hfam];rw[H0 h0 hF hA hB hC hX hb hκ hκX hinj];simp only[wG];rw[t2];simp only[wG];rw[jW,k11];rfl
def lV (sh:Sh)(l:List AV):AV:=if l.isEmpty then .lst true .sc []else .lst false sh l
def fKs (κ:Nat->Nat):Nat->List (List AV)->List Nat
 | _,[]=>[]
 | i,l::ls=>(if l.isEmpty then []else [κ i])++fKs κ (i+1) ls
theorem tF {hp:Hp}{sh:Sh}{κ:Nat->Nat}:∀{i:Nat} {ls:List (List AV)},(∀j l,ls[j]? =some l->l.isEmpty=false->hp.get (κ (i+j))=some (.grow sh l))->gK hp (fE κ i ls)=some (ls.map (lV sh),fKs κ i ls)
 | _,[],_=>rfl
 | i,l::ls,h=>by
   have ih:=tF (hp:=hp) (sh:=sh) (κ:=κ) (i:=i+1) (ls:=ls) fun j m h1 h2=>by
    have:=h (j+1) m (by simpa using h1) h2
    rwa [show i+(j+1)=(i+1)+j by omega]at this
   rw[fE,gK,ih,fKs,wv,lV]
   cases hl:l.isEmpty with
   | true=>rfl
   | false =>have h0:=h 0 l rfl hl;rw[w1]at h0;simp only[wC,if_false,gX,h0,w0,if_true,wx,wG,wJ]
theorem yL {κ:Nat->Nat}:∀{i:Nat} {ls:List (List AV)} {k:Nat},k∈fKs κ i ls↔∃j,nE ls i j/\k=κ j
 | i,[],k=>by simp[fKs,nE]
 | i,l::ls,k=>by have:=pS (κ:=κ) (base:=0) (i:=i) (ls:=l::ls) (k:=k);rw[<-this,fKs,fP,WA,wi,wi,yL,pS];cases l.isEmpty<;>simp
theorem pN {r:Hp}{k:Nat}:∀{K:List Nat},k∉K->Hp.get (ct K++r) k=Hp.get r k
 | [],_=>rfl
 | j::K,h=>by simp only[WG,not_or]at h;show Hp.get ((j,.dead)::(ct K++r)) k=_;rw[dL,if_neg (fun e=>h.1 e.symm),pN h.2]
theorem fF {α:Type}{f:St->Option (Ex×St)}{ks:List Kp}(S:α->St)(Inv Fin:α->Prop)(μ:α->Nat){a0:α}(hN:μ a0<LF)(hI:Inv a0)
  (hs:∀a,Inv a->(Fin a/\oz (f (S a))=true)\/∃a',Inv a'/\μ a'<μ a/\aK ks (f (S a))=some (S a')) :
  ∃a,Inv a/\Fin a/\∀st,bT ks st=some (S a0)->fG f ks LF st=f (S a):=by
 have key:∀(m n:Nat) (a:α),μ a<=m->m<n->Inv a->∃a',Inv a'/\Fin a'/\∀st,bT ks st=some (S a)->fG f ks n st=f (S a'):=by
  intro m
  induction m with
  | zero =>
    intro n a hm hn hi;obtain⟨n,rfl⟩:∃k,n=k+1:=⟨n-1,by omega⟩;rcases hs a hi with ⟨h1,h2⟩|⟨a',h1,h2,h3⟩
    . refine⟨a,hi,h1,fun st hc=> ?_⟩
      cases hf:f (S a)with
      | none=>rw[hf]at h2;cases h2
      | some r =>obtain⟨e,out⟩:=r;exact kY hc hf (by rw[hf]at h2;cases e<;>simp_all[oz])
    . omega
  | succ m ih =>
    intro n a hm hn hi;obtain⟨n,rfl⟩:∃k,n=k+1:=⟨n-1,by omega⟩;rcases hs a hi with ⟨h1,h2⟩|⟨a',h1,h2,h3⟩
    . refine⟨a,hi,h1,fun st hc=> ?_⟩
      cases hf:f (S a)with
      | none=>rw[hf]at h2;cases h2
      | some r =>obtain⟨e,out⟩:=r;exact kY hc hf (by rw[hf]at h2;cases e<;>simp_all[oz])
    . unfold aK at h3;split at h3
      . rename_i st2 hf;obtain⟨b,g1,g2,g3⟩:=ih n a' (by omega) (by omega) h1;exact⟨b,g1,g2,fun st hc=>(pD hc hf).trans (g3 st2 h3)⟩
      . cases h3
 exact key (μ a0) LF a0 (w0 _) hN hI
end Go.Ev
