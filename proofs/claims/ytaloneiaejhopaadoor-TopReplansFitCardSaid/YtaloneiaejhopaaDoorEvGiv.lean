/-
  Given functions of the library: slices.Clone. No condition.
-/
import Derived.Test.YtaloneiaejhopaaDoorEvTop
import Derived.Test.YtaloneiaejhopaaDoorEvS
import Derived.WalkSpells
import Derived.TacticsIn
set_option linter.all false
open Option renaming some.injEq->wB,bind_eq_some_iff->wC,ite_none_right_eq_some->wD,map_eq_some_iff->wE
open List renaming zip_cons_cons->wF,all_cons->wG,size_toArray->wH,map_cons->wJ
open Nat renaming lt_of_lt_of_le->wK
open Bool renaming and_eq_true->wL
open Prod renaming mk.injEq->wM
namespace Go.Ev
open Go
variable {P :Program}
def zxi (t:TypeId):Code :=
 (Code.region 3
       #[{dst:=some 5,op:=Op.buildSlice t 0 #[],type:=t,pos:= "slices.go:362",after:= #[],guard:=none},
         {dst:=some 6,op:=Op.move (Operand.tmp 0),type:=t,pos:= "slices.go:362",after:= #[],guard:=none},
         {dst:=some 7,op:=Op.call {callee:=Callee.builtin Builtin.append,args:= #[Operand.tmp 5,Operand.tmp 6],argTypes:= #[t,t]},type:=t,pos:= "slices.go:362",
          after:= #[{on:=0,ground:=Ground.data},{on:=1,ground:=Ground.data}],guard:=none},
         {dst:=some 2,op:=Op.assign (Operand.tmp 7),type:=t,pos:= "slices.go:362",
          after:= #[{on:=2,ground:=Ground.data},{on:=2,ground:=Ground.chain},{on:=0,ground:=Ground.phase},{on:=1,ground:=Ground.phase},{on:=2,ground:=Ground.phase}],
          guard:=none}]
       false).seq Code.ret
def zxh (t:TypeId):Code :=
 (Code.region 2 #[{dst:=some 2,op:=Op.assign (Operand.const (Value.slice none 0 0)),type:=t,pos:= "slices.go:358",after:= #[],guard:=none}] false).seq Code.ret
def z40 (t b:TypeId):Array Oper :=
 #[{dst:=some 3,op:=Op.move (Operand.tmp 0),type:=t,pos:= "slices.go:357",after:= #[],guard:=none},
   {dst:=some 4,op:=Op.binOp BinOp.eql t (Operand.tmp 3) (Operand.const (Value.slice none 0 0)) t,type:=b,pos:= "slices.go:357",after:= #[{on:=0,ground:=Ground.data}],guard:=none}]
def zxj (t:TypeId):Code :=
 Code.region 0 #[{dst:=some 2,op:=Op.assign (Operand.const (Value.slice none 0 0)),type:=t,pos:= "slices.go:355",after:= #[],guard:=none}] false
def qjo (t b:TypeId):Code :=
 (zxj t).seq (((Code.region 1 (z40 t b) false).seq (Code.cond (Operand.tmp 4) (zxh t) Code.skip)).seq (zxi t))
def zov (sh:Sh)(_:Cl)(as:List AV)(imps:Hp):Option (AV×Hp×List OB) :=
 match as,imps with
 | [.lst _ sh' l],[]=>if(l.isEmpty||Sh.beq sh sh')&&decide (l.length<=LIM)then some (.sl 20000 [] 0 l.length,[],[.grow sh l])else none
 | _,_=>none
def zvc :MC:=.reg (.op (some 2) (.mov (.c (.lst true .sc []))) .nil)
def zq0 (sh:Sh)(z:AV)(g:Nat):MC:=.seq (.reg (.op (some 5) (.bslice sh z 0 []) (.op (some 6) (.mov (.t 0)) (.op (some 7) (.append sh g (.t 5) (.t 6)) (.op (some 2) (.mov (.t 7)) .nil))))) .ret
theorem z9l {F:Fence}{n:Nat}{o:Oper}{a:Act}{w:World}{v':Value}(hF:∀f,F.fn f)(hnd:∀c,o.op≠.defer c)(h:(execOp a.eval o).run P w= .ok (.value v') w){K:Act->World->Prop}{Q:Exit->Act->World->Prop}
  (hK:K (a.put o.dst v') w):o.wpIn F n P a w K Q:=by
 unfold Oper.wpIn
 refine⟨fun f _=>hF f,?_⟩
 rw[Oper.semAt_eq _ _ _ hnd,h,Oper.uponIn_value];exact hK
theorem zxb {H:Heap}{G:Gh}{as:List AV}{imps:Hp}{vs:Array Value}{m:Nat}(inv:Inv H G imps)(hlen:vs.size=as.length)(hrep:∀i (h:i<vs.size) (h':i<as.length),RepV H G vs[i] as[i]) :
  StOk H G {fr:=frOf 0 as,hp:=imps} (vs++Array.replicate m undef):=by
 refine⟨inv,fun i=> ?_⟩
 rw[zjh]
 by_cases hi:0<=i/\i<0+as.length
 . rw[if_pos hi]
   have h1:i<vs.size:=by omega
   have h2:i<as.length:=by omega
   have e1:(vs++Array.replicate m undef).getD i undef=vs[i]:=by
    rw[Array.getD_eq_getD_getElem?,Array.getElem?_append_left h1];simp[h1]
   have e2:as.getD (i-0) .unk=as[i]:=by simp[h2]
   rw[e1,e2]
   have hv:=hrep i h1 h2
   exact(RepT.of_known hv.known).2 hv
 . rw[if_neg hi];trivial
theorem z5y {H:Heap}{G:Gh}{st:St}{a:Act}{d:Nat}{v:AV}{v':Value}(hst:StOk H G st a.tmps)(hd:d<a.tmps.size)(hv:RepT H G v' v):StOk H G (st.upd (some d) v []) (a.put (some d) v').tmps :=
 zga hst (fun i hi=>by cases hi;exact hd) (Step.refl hst.inv) hv
theorem zjp {L:Prop}{gl:Gl}{a a1:Act}{w w1:World}{G G1:Gh}{hp:Hp}{st:St}{d:Nat}{v:AV}{v':Value}(hc:Came L gl a w G hp a1 w1 G1 st)(hd:d<a1.tmps.size)(hv:RepT w1.heap G1 v' v) :
  Came L gl a w G hp (a1.put (some d) v') w1 G1 (st.upd (some d) v []) :=
 ⟨hc.kept,hc.move,z5y hc.ok hd hv,by rw[zcn,hc.size],hc.defers,hc.hand,.nil⟩
theorem z6q {H:Heap}{G:Gh}(b:Bool):RepT H G (.bool b) (.bool b):=(RepT.of_known rfl).2 ⟨rfl,trivial,[.bool b],⟨rfl,fun j h h'=>by simp at h;subst h;exact .bool _⟩,rfl⟩
theorem z6p {H:Heap}{G:Gh}{v:Value}{full:Bool}{sh:Sh}{l:List AV}(h:RepV H G v (.lst full sh l)):∃q m c,v= .slice q m c/\(q=none->l=[]):=by
 obtain⟨vs,hl,rfl⟩:=h.rep
 have h1:vs.length=1:=by simpa[AV.flat]using hl.len
 match vs,h1 with
 | [u],_ =>
   have:=hl.get 0 (by simp) (by simp[AV.flat])
   simp only[AV.flat,List.getElem_cons_zero]at this
   simp only[ze3,AV.isAgg,Bool.false_eq_true,if_false,List.headD_cons]
   cases this with
   | lstE=>exact⟨_,_,_,rfl,fun _=>rfl⟩
   | lst=>exact⟨_,_,_,rfl,fun h=>by cases h⟩
mutual
theorem Sh.beq_refl :∀s:Sh,Sh.beq s s=true
 | .sc=>rfl
 | .st l=>by simp only[Sh.beq];exact Sh.beqs_refl l
 | .ar n e=>by simp[Sh.beq,Sh.beq_refl e]
theorem Sh.beqs_refl :∀l:List Sh,Sh.beqs l l=true
 | []=>rfl
 | s::l=>by simp[Sh.beqs,Sh.beq_refl s,Sh.beqs_refl l]
end
theorem z41 {gl:Gl}{cl:Cl}{sh sh':Sh}{z:AV}{g:Nat}{st:St}{full:Bool}{l:List AV}(h0:st.fr.get 0= .lst full sh' l)(hp:st.hp=[])(hb:(l.isEmpty||Sh.beq sh sh')=true)(hl:l.length<=LIM)(hg:g<=1024) :
  ∃st5,evC gl cl (zq0 sh z g) st=some (.ret,st5)/\zg5 st5 [.tmp 2] [.own sh]=some ([.sl 20000 [] 0 l.length],[.grow sh l]):=by
 obtain⟨fr,hp⟩:=st
 subst hp
 simp only at h0
 have hrefl:Sh.beq sh sh=true:=Sh.beq_refl sh
 have hb':l=[]\/Sh.beq sh sh'=true:=by simpa using hb
 simp[zq0,evC,zbz,zaa,zj1,Hp.get,AV.plains,St.upd,Fr.upd,Fr.get,Opd.val,h0,za6,hg,hb',hl,hrefl,zg5,zbi,zfi,zef,ze4,zem,zi6]
theorem zxg {f:Nat}{fn:Func}{t b e:TypeId}{sh:Sh}{z:AV}{g:Nat}(hmix:P.follows .mixedOrders=true)(hfn:P.funcs[f]? =some fn)(hname:(fn.name== "runtime.NumGoroutine")=false)
  (hbody:fn.body=some (qjo t b)) (hres:mapO (zei P) fn.results.toList=some [.tmp 2]) (hn:8<=fn.ntmps) (ht:P.underlying t=some (.slice e))
  (hA:comp P ⟨[],[],[],[]⟩ 1000000 (zxj t)=some zvc) (hT:comp P ⟨[],[],[],[]⟩ 1000000 (zxh t)=some (.seq zvc .ret)) (hE:comp P ⟨[],[],[],[]⟩ 1000000 (zxi t)=some (zq0 sh z g)) (hgb:g<=1024):qfd P f (zov sh):=by
 intro gl cl hcall f' as imps r os es h
 have hF:∀f,Fence.wide.fn f:=fun _=>trivial
 simp only[wD]at h
 obtain⟨rfl,h⟩:=h
 unfold zov at h
 split at h
 case h_2=>cases h
 rename_i full sh' l
 rw[wD]at h
 obtain⟨hc0,h⟩:=h
 cases h
 refine⟨⟨fn,hfn,hname,by simp[hbody]⟩,fun n w vs G inv hg hlen hrep=> ?_⟩
 have S:Setting P Fence.wide n gl cl:=⟨hmix,zdq hF rfl hcall n,zcv (zdq (fun _=>trivial) rfl hcall n),hF⟩
 have hst:StOk w.heap G {fr:=frOf 0 [.lst full sh' l],hp:=[]} (vs++Array.replicate (fn.ntmps-vs.size) undef):=zxb inv hlen hrep
 have hsz:vs.size=1:=hlen
 have hN:8<=(vs++Array.replicate (fn.ntmps-vs.size) undef).size:=by simp;omega
 refine callsIn_of_wp hfn hbody (hF _) ?_ rfl
 refine wpIn_seq (ze8 (L:=False) S (zxj t) 1000000 zvc hA rfl (fun h=>h.elim) (zbv hN _ (by simp[zc4,zxj])) _ w G _ _ .norm hg hst rfl rfl _ fun a1 w1 G1 hc1=> ?_)
 have hc1':=hc1
 refine wpIn_seq (wpIn_seq (wpIn_region ?_))
 have hv:RepV w1.heap G1 (a1.tmps.getD 0 undef) (.lst full sh' l):=(RepT.of_known rfl).1 (hc1.ok.fr 0)
 obtain⟨q,m,c,hq,hnil⟩:=z6p hv
 have hs1:8<=a1.tmps.size:=by rw[hc1.size];exact hN
 rw[show List.range (z40 t b).size=[0,1]from rfl]
 unfold wpOpsIn
 simp only[z40,List.getElem?_toArray,List.getElem?_cons_zero,Region.wanted,if_true,wH]
 refine z9l (v':=.slice q m c) hF (fun c h=>by cases h) (by simp[execOp,Act.eval,hq]) ?_
 refine z9l (v':=.bool q.isNone) hF (fun c h=>by cases h) ?_ ?_
 . have e1:(a1.put (some 3) (Value.slice q m c)).eval (Operand.tmp 3)=Value.slice q m c:=by
    have:=zgh a1 (some 3) (Value.slice q m c) (fun i hi=>by cases hi;exact wK (by decide) hs1) 3
    simpa[Act.eval]using this
   show(execOp _ {dst:=some 4,op:=Op.binOp BinOp.eql t (Operand.tmp 3) (Operand.const (Value.slice none 0 0)) t,type:=b,pos:= "slices.go:357",after:= #[{on:=0,ground:=Ground.data}],guard:=none}).run P w1=_
   have hgd:∀x y,(eqGuard .eql t x y (.slice q m c) (.slice none 0 0)).run P w1= .ok () w1:=fun x y=>by
    unfold eqGuard;split<;>rfl
   have hcn:(a1.put (some 3) (Value.slice q m c)).eval (Operand.const (Value.slice none 0 0))= .slice none 0 0:=rfl
   simp only[execOp,e1,hcn]
   simp[hgd,Lib.run_eql_slice_nil w1 t e q m c 0 0 ht]
 have hc3:=zjp (zjp hc1 (d:=3) (v:=.lst full sh' l) (v':=.slice q m c) (wK (by decide) hs1) (by rw[<-hq];exact hc1.ok.fr 0)) (d:=4) (by rw[zcn];exact wK (by decide) hs1) (z6q q.isNone)
 show Code.wpIn _ n P _ _ ((a1.put (some 3) (Value.slice q m c)).put (some 4) (.bool q.isNone)) w1
 generalize (a1.put (some 3) (Value.slice q m c)).put (some 4) (.bool q.isNone)=a3 at hc3 ⊢
 have hst3:=hc3.ok
 have hx:a3.eval (Operand.tmp 4)= .bool q.isNone:=by
  have:=zb7 (b:=q.isNone) (hst3.fr 4)
  simpa[Act.eval]using this
 have fin:∀{a' w' G' st'} (z:AV),Came False gl a3 w1 G1 [] a' w' G' st'->zg5 st' [.tmp 2] [.own sh]=some ([.sl 20000 [] 0 l.length],[.grow sh l]) ->
   a'.defers=[]/\∃v,(results fn a'.tmps).run P w'= .ok v w'/\∃v1 G1,Ending.returned v= .returned v1/\Kept w w'/\Move w.heap G [] w'.heap G1 ([]++zcc 0 [.grow sh l])/\(([]:Hp)≠[]->∀(q:Nat),SHK<=q->∀(r:Rg),G1.reg q=some r->∃r0,G.reg q=some r0/\r0.le r)/\RepT w'.heap G1 v1 (.sl 20000 [] 0 l.length):=by
  intro a' w' G' st' z hc hz
  have hc':=hc3.trans hc
  obtain⟨v,h1,v1,G2,h2,h3,h4,h5⟩:=zr7 hres hc' hz rfl
  exact⟨hc'.defers,v,h1,v1,G2,h2,h3,h4,fun h=>absurd rfl h,h5⟩
 refine wpIn_cond hx ?_
 cases hq2:q.isNone with
 | true =>
   have hl0:=hnil (by simpa using hq2)
   subst hl0
   rw[if_pos rfl]
   refine ze8 (L:=False) S (zxh t) 1000000 _ hT rfl (fun h=>h.elim) (zbv (by rw[hc3.size];exact hN) _ (by simp[zc4,zxh])) a3 w1 G1 _ _ .ret (hg.moved hc3.move) hst3 rfl rfl _ fun a' w' G' hc=> ?_
   exact fin (.bool true) hc rfl
 | false =>
   rw[if_neg (by simp)]
   refine wpIn_skip ?_
   have hb:(l.isEmpty||Sh.beq sh sh')=true/\l.length<=LIM:=by simpa only[wL,decide_eq_true_eq]using hc0
   have key:∀(st:St),StOk w1.heap G1 st a3.tmps->st.fr.get 0= .lst full sh' l->st.hp=[]->∃st5,evC gl cl (zq0 sh z g) st=some (.ret,st5)/\zg5 st5 [.tmp 2] [.own sh]=some ([.sl 20000 [] 0 l.length],[.grow sh l]) :=
    fun st _ h1 h2=>z41 h1 h2 hb.1 hb.2 hgb
   obtain⟨st5,hev,hpk⟩:=key _ hst3 rfl rfl
   refine ze8 (L:=False) S (zxi t) 1000000 _ hE rfl (fun h=>h.elim) (zbv (by rw[hc3.size];exact hN) _ (by simp[zc4,zxi])) a3 w1 G1 _ _ .ret (hg.moved hc3.move) hst3 rfl hev _ fun a' w' G' hc=> ?_
   exact fin (.bool true) hc hpk
end Go.Ev
namespace Go.Ev
open Go
variable {P :Program} {F:Fence} {n:Nat} {gl:Gl} {cl:Cl} {L:Prop}
theorem qdz {fn:Func}{rds:List ResD}(hres:mapO (zei P) fn.results.toList=some rds){imps:Hp}{a a':Act}{w w':World}{G G':Gh}{st':St}(hc:Came True gl a w G imps a' w' G' st'){rs:List AV}(hrs:zbi st' rds=some rs)
  {E:List Nat} {z:List AV×Hp×List OB} (hz:zft st' (zcq imps) rs E=some z) {r:AV} {os:Hp} {es:List OB} (he:(zp2 z.1,z.2.1,z.2.2)=(r,os,es)) :
  ∃v,(results fn a'.tmps).run P w'= .ok v w'/\∃v1 G1,Ending.returned v= .returned v1/\Kept w w'/\Move w.heap G imps w'.heap G1 (os++zcc 0 es)/\(imps≠[]->∀q,SHK<=q->∀r,G1.reg q=some r->∃r0,G.reg q=some r0/\r0.le r)/\RepT w'.heap G1 v1 r:=by
 obtain⟨l,os',es'⟩:=z
 simp only[wM]at he
 obtain⟨he1,rfl,rfl⟩:=he
 obtain⟨us,g1,g2,g3,g4⟩:=zfs hc.ok hres hrs
 obtain⟨k1,k2,kh,k3,k4⟩:=zi5 hc.ok hz (by omega) g4
 have hrun:=zgd (fn:=fn) (vs:=us) (by simpa using g1) fun i hi hi'=>by
  have:=g3 i (by simpa using hi) hi'
  simpa using this
 refine⟨_,hrun,_,zig G' (zcq imps) E,rfl,hc.kept,?_,fun _ q hq r hr=>hc.hand trivial q hq r (kh q hq r hr),?_⟩
 . have m:=hc.move
   exact⟨k1,m.size,m.imm,m.yl,m.same,fun b hb=>m.live b (k2 b hb),m.immNew⟩
 . subst he1
   match us,l,k3,g1,g2,k4 with
   | [],[],_,_,_,_=>exact⟨#[],rfl,rfl,fun i h=>by simp at h⟩
   | [u],[x],_,_,_,k4 =>
     have:=k4 0 (by simp) (by simp)
     exact(RepT.of_known this.known).2 this
   | u1::u2::us,x1::x2::l,_,_,_,k4 =>
     refine⟨_,rfl,by simp only[wH];simp only[List.length_cons]at *;omega,fun i h h'=> ?_⟩
     have:=k4 i (by simpa using h) h'
     simpa using this
   | [],_::_,h1,h2,h3,_=>simp at *;omega
   | [_],[],h1,h2,h3,_=>simp at *;omega
   | [_],_::_::_,h1,h2,h3,_=>simp at *;omega
   | _::_::_,[],h1,h2,h3,_=>simp at *;omega
   | _::_::_,[_],h1,h2,h3,_=>simp at *;omega
theorem zm8 {a:Act}{w:World}{G:Gh}{st:St}(h:StOk w.heap G st a.tmps):Came L gl a w G st.hp a w G st :=
 ⟨Kept.refl w,Move.refl h.inv,h,rfl,rfl,fun _ _ _ r h=>⟨r,h,Rg.le_refl r⟩,.nil⟩
theorem ztf {a a1:Act}{w w1 w2:World}{G G1 G2:Gh}{hp:Hp}{st:St}{d:Option Nat}{v:AV}{v':Value}{us:Hp}(hc:Came L gl a w G hp a1 w1 G1 st)(hd:∀i,d=some i->i<a1.tmps.size)(hk:Kept w1 w2)
  (hs:Step w1.heap G1 st.hp w2.heap G2 (us++st.hp)) (hv:RepT w2.heap G2 v' v) (hlt:L->∀k o,(k,o)∈us->st.hp.get k≠none\/k<SHK) :
  Came L gl a w G hp (a1.put d v') w2 G2 (st.upd d v us) :=
 hc.trans ⟨hk,hs.move,zga hc.ok hd hs hv,zcn _ _ _,zhp _ _ _,fun l q hq r hr=>zdg hc.ok.inv hs (fun q hq hn=>zjt (fr:=st.fr) (hlt l) hq hn) hq hr,.nil⟩
theorem zox {a a1:Act}{w w1:World}{G G1 G2:Gh}{hp:Hp}{st:St}{us:Hp}(hc:Came L gl a w G hp a1 w1 G1 st)
  (hs:Step w1.heap G1 st.hp w1.heap G2 (us++st.hp)) (hlt:L->∀k o,(k,o)∈us->st.hp.get k≠none\/k<SHK):Came L gl a w G hp a1 w1 G2 {fr:=st.fr,hp:=us++st.hp} :=
 hc.trans ⟨Kept.refl _,hs.move,⟨hs.inv,fun i=>(hc.ok.fr i).mono hs.le⟩,rfl,rfl,fun l q hq r hr=>zdg hc.ok.inv hs (fun q hq hn=>zjt (fr:=st.fr) (hlt l) hq hn) hq hr,.nil⟩
theorem z47 {a a1:Act}{w w1:World}{G G1:Gh}{hp:Hp}{st:St}{fr:Fr}(hc:Came L gl a w G hp a1 w1 G1 st)(h:∀i,RepT w1.heap G1 (a1.tmps.getD i undef) (fr.get i)):Came L gl a w G hp a1 w1 G1 {fr,hp:=st.hp} :=
 ⟨hc.kept,hc.move,⟨hc.ok.inv,h⟩,hc.size,hc.defers,hc.hand,.nil⟩
def zjd :List (Option Nat×MOp)->Its
 | []=>.nil
 | (d,m)::l=>.op d m (zjd l)
theorem zi9 {im:Im}{ops:Array Oper}{Q:Exit->Act->World->Prop}(hop:OpOk F n P gl cl):∀(os:List Oper) (ms:List MOp),mapO (zan P im) os=some ms->(∀o∈os,o.guard=none) ->
  ∀(a:Act) (w:World) (G:Gh) (st st':St),(∀o∈os,∀d,o.dst=some d->d<a.tmps.size)->(L->(os.zip ms).all (fun q=>ltO q.1.dst)=true)->GlOk w.heap G gl->StOk w.heap G st a.tmps ->
   zbz gl cl (zjd ((os.zip ms).map fun q=>(q.1.dst,q.2))) st=some st'->∀rest,(∀a' w' G',Came L gl a w G st.hp a' w' G' st'->wpListIn F n P ops Q rest a' w')->wpListIn F n P ops Q (os++rest) a w
 | [],ms,h,_,a,w,G,st,st',_,_,_,hst,hev,rest,hK=>by
   simp only[mapO,wB]at h
   subst h
   simp only[List.zip_nil_left,List.map_nil,zjd,zbz,wB]at hev
   subst hev
   exact hK a w G (zm8 hst)
 | o::os,ms,h,hgd,a,w,G,st,st',hd,hlt,hg,hst,hev,rest,hK=>by
   simp only[mapO,wC,wE]at h
   obtain⟨m,hm,ms',hms,rfl⟩:=h
   simp only[wF,wJ,zjd,zbz,wC]at hev
   obtain⟨⟨v,us⟩,h1,hev⟩:=hev
   refine wpListIn_plain (hgd o (by simp)) fun K hK'=>hop o m a w G st v us hg hst hm h1 K Q fun v' w' G' hk hs hv=>hK' _ _ ?_
   have hdo:∀i,o.dst=some i->i<a.tmps.size:=fun i hi=>hd o (by simp) i hi
   have hc1:Came L gl a w G st.hp (a.put o.dst v') w' G' (st.upd o.dst v us):=ztf (zm8 hst) hdo hk hs hv fun l=>by
    have:=hlt l
    simp only[wF,wG,wL]at this
    exact zjw this.1 h1
   refine zi9 hop os ms' hms (fun o ho=>hgd o (by simp[ho])) _ w' G' _ st' (fun o ho d hd'=>by rw[zcn];exact hd o (by simp[ho]) d hd') (fun l=>by
    have:=hlt l
    simp only[wF,wG,wL]at this
    exact this.2) (hg.mono hs.le) hc1.ok hev rest fun a2 w2 G2 hc2=>hK a2 w2 G2 (hc1.trans hc2)
theorem zvo {ops:Array Oper}{Q:Exit->Act->World->Prop}{o:Oper}{rest:List Oper}{a:Act}{w w':World}{v':Value}(hF:∀f,F.fn f)(hgd:o.guard=none)(hnd:∀c,o.op≠.defer c)(h:(execOp a.eval o).run P w= .ok (.value v') w')
  (hK:wpListIn F n P ops Q rest (a.put o.dst v') w'):wpListIn F n P ops Q (o::rest) a w:=by
 refine wpListIn_plain hgd fun K hK'=> ?_
 unfold Oper.wpIn
 refine⟨fun f _=>hF f,?_⟩
 rw[Oper.semAt_eq _ _ _ hnd,h,Oper.uponIn_value];exact hK' _ _ hK
def seqs (cs:List Code)(rest:Code):Code:=cs.foldr Code.seq rest
def zs6 (gl:Gl)(cl:Cl):List MC->St->Option (Ex×St)
 | [],st=>some (.norm,st)
 | m::ms,st=>(evC gl cl m st).bind fun r=>match r.1 with
   | .norm=>zs6 gl cl ms r.2
   | e=>some (e,r.2)
theorem zty {an:Ann}{id N:Nat}(S:Setting P F n gl cl):∀(cs:List Code) (ms:List MC),mapO (comp P an id) cs=some ms->ms.all (fun m=> !zcm m)=true->(L->ms.all mcLt=true)->cs.all (zc4 N)=true->∀(a:Act) (w:World) (G:Gh) (st st':St) (e:Ex),
  GlOk w.heap G gl->StOk w.heap G st a.tmps->a.tmps.size=N->zs6 gl cl ms st=some (e,st')->∀(Q:Exit->Act->World->Prop) (rest:Code),
   (∀a' w' G',Came L gl a w G st.hp a' w' G' st'->match e with| .norm=>rest.wpIn F n P Q a' w'|e=>Q (exOf e) a' w')->(seqs cs rest).wpIn F n P Q a w
 | [],ms,h,_,_,_,a,w,G,st,st',e,hg,hst,hN,hev,Q,rest,hK=>by
   simp only[mapO,wB]at h
   subst h
   simp only[zs6,wB,wM]at hev
   obtain⟨rfl,rfl⟩:=hev
   exact hK a w G (zm8 hst)
 | c::cs,ms,h,hrf,hlt,hd,a,w,G,st,st',e,hg,hst,hN,hev,Q,rest,hK=>by
   simp only[mapO,wC,wE]at h
   obtain⟨m,hm,ms',hms,rfl⟩:=h
   simp only[wG,wL]at hlt hd hrf
   simp only[zs6,wC]at hev
   obtain⟨⟨e1,st1⟩,h1,hev⟩:=hev
   refine wpIn_seq (ze8 (L:=L) S c id m hm (by simpa using hrf.1) (fun l=>(hlt l).1) hd.1 a w G st st1 e1 hg hst hN h1 _ fun a1 w1 G1 hc1=> ?_)
   cases e1 with
   | norm =>
     exact zty S cs ms' hms hrf.2 (fun l=>(hlt l).2) hd.2 a1 w1 G1 st1 st' e (hg.moved hc1.move) hc1.ok (hc1.size.trans hN) hev Q rest fun a2 w2 G2 hc2=>hK a2 w2 G2 (hc1.trans hc2)
   | exit j =>
     simp only[wB,wM]at hev
     obtain⟨rfl,rfl⟩:=hev
     exact hK a1 w1 G1 hc1
   | ret =>
     simp only[wB,wM]at hev
     obtain⟨rfl,rfl⟩:=hev
     exact hK a1 w1 G1 hc1
def zc2 (fr:Fr)(ks:List Nat):Fr:=ks.map fun i=>.set i (fr.get i)
theorem zn9 {fr:Fr}:∀{ks:List Nat} {i:Nat},(zc2 fr ks).get i=fr.get i\/(zc2 fr ks).get i= .unk
 | [],i=>.inr rfl
 | k::ks,i=>by
   simp only[zc2,wJ,Fr.get]
   by_cases h:k=i
   . subst h;simp
   . rw[if_neg h];exact zn9 (ks:=ks)
theorem zb9 {a a1:Act}{w w1:World}{G G1:Gh}{hp:Hp}{st:St}(ks:List Nat)(hc:Came L gl a w G hp a1 w1 G1 st):Came L gl a w G hp a1 w1 G1 {fr:=zc2 st.fr ks,hp:=st.hp} :=
 z47 hc fun i=>by
  rcases zn9 (fr:=st.fr) (ks:=ks) (i:=i)with h|h<;>rw[h]
  . exact hc.ok.fr i
  . trivial
end Go.Ev
