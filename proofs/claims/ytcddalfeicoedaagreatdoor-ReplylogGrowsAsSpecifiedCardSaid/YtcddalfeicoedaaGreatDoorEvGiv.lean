/-
  Given functions of the library: slices.Clone. No condition.
-/
import Derived.Test.YtcddalfeicoedaaGreatDoorEvTop
import Derived.Test.YtcddalfeicoedaaGreatDoorEvS
import Derived.WalkSpells
import Derived.TacticsIn
set_option linter.all false
open Nat renaming lt_of_lt_of_le->wA
namespace Go.Ev
open Go
variable {P :Program}
def zv0 (t:TypeId):Code :=
 (Code.region 3
       #[{dst:=some 5,op:=Op.buildSlice t 0 #[],type:=t,pos:= "slices.go:362",after:= #[],guard:=none},
         {dst:=some 6,op:=Op.move (Operand.tmp 0),type:=t,pos:= "slices.go:362",after:= #[],guard:=none},
         {dst:=some 7,op:=Op.call {callee:=Callee.builtin Builtin.append,args:= #[Operand.tmp 5,Operand.tmp 6],argTypes:= #[t,t]},type:=t,pos:= "slices.go:362",
          after:= #[{on:=0,ground:=Ground.data},{on:=1,ground:=Ground.data}],guard:=none},
         {dst:=some 2,op:=Op.assign (Operand.tmp 7),type:=t,pos:= "slices.go:362",
          after:= #[{on:=2,ground:=Ground.data},{on:=2,ground:=Ground.chain},{on:=0,ground:=Ground.phase},{on:=1,ground:=Ground.phase},{on:=2,ground:=Ground.phase}],
          guard:=none}]
       false).seq Code.ret
def zvz (t:TypeId):Code :=
 (Code.region 2 #[{dst:=some 2,op:=Op.assign (Operand.const (Value.slice none 0 0)),type:=t,pos:= "slices.go:358",after:= #[],guard:=none}] false).seq Code.ret
def z2q (t b:TypeId):Array Oper :=
 #[{dst:=some 3,op:=Op.move (Operand.tmp 0),type:=t,pos:= "slices.go:357",after:= #[],guard:=none},
   {dst:=some 4,op:=Op.binOp BinOp.eql t (Operand.tmp 3) (Operand.const (Value.slice none 0 0)) t,type:=b,pos:= "slices.go:357",after:= #[{on:=0,ground:=Ground.data}],guard:=none}]
def zv1 (t:TypeId):Code :=
 Code.region 0 #[{dst:=some 2,op:=Op.assign (Operand.const (Value.slice none 0 0)),type:=t,pos:= "slices.go:355",after:= #[],guard:=none}] false
def qgr (t b:TypeId):Code :=
 (zv1 t).seq (((Code.region 1 (z2q t b) false).seq (Code.cond (Operand.tmp 4) (zvz t) Code.skip)).seq (zv0 t))
def zr2 (sh:Sh)(_:Cl)(as:List AV)(imps:Hp):Option (AV×Hp×List OB) :=
 match as,imps with
 | [.lst _ sh' l],[]=>if(l.isEmpty||Sh.beq sh sh')&&decide (l.length<=LIM)then some (.sl 20000 [] 0 l.length,[],[.grow sh l])else none
 | _,_=>none
def zty :MC:=.reg (.op (some 2) (.mov (.c (.lst true .sc []))) .nil)
def zp6 (sh:Sh)(z:AV)(g:Nat):MC:=.seq (.reg (.op (some 5) (.bslice sh z 0 []) (.op (some 6) (.mov (.t 0)) (.op (some 7) (.append sh g (.t 5) (.t 6)) (.op (some 2) (.mov (.t 7)) .nil))))) .ret
theorem z7t {F:Fence}{n:Nat}{o:Oper}{a:Act}{w:World}{v':Value}(hF:∀f,F.fn f)(hnd:∀c,o.op≠.defer c)(h:(execOp a.eval o).run P w= .ok (.value v') w){K:Act->World->Prop}{Q:Exit->Act->World->Prop}
  (hK:K (a.put o.dst v') w):o.wpIn F n P a w K Q:=by
 unfold Oper.wpIn
 refine⟨fun f _=>hF f,?_⟩
 rw[Oper.semAt_eq _ _ _ hnd,h,Oper.uponIn_value];exact hK
theorem z65 {H:Heap}{G:Gh}{as:List AV}{imps:Hp}{vs:Array Value}{m:Nat}(inv:Inv H G imps)(hlen:vs.size=as.length)(hrep:∀i (h:i<vs.size) (h':i<as.length),RepV H G vs[i] as[i]) :
  StOk H G {fr:=frOf 0 as,hp:=imps} (vs++Array.replicate m undef):=by
 refine⟨inv,fun i=> ?_⟩
 rw[ziy]
 by_cases hi:0<=i/\i<0+as.length
 . rw[if_pos hi]
   have h1:i<vs.size:=by omega
   have h2:i<as.length:=by omega
   have e1:(vs++Array.replicate m undef).getD i undef=vs[i]:=by
    rw[Array.getD_eq_getD_getElem?,Array.getElem?_append_left h1];simp[h1]
   have e2:as.getD (i-0) .unk=as[i]:=by simp[h2]
   rw[e1,e2]
   have hv:=hrep i h1 h2
   exact(RepT.of_known hv.known).2 hv
 . rw[if_neg hi];trivial
theorem z3l {H:Heap}{G:Gh}{st:St}{a:Act}{d:Nat}{v:AV}{v':Value}(hst:StOk H G st a.tmps)(hd:d<a.tmps.size)(hv:RepT H G v' v):StOk H G (st.upd (some d) v []) (a.put (some d) v').tmps :=
 zg4 hst (fun i hi=>by cases hi;exact hd) (Step.refl hst.inv) hv
theorem zv5 {L:Prop}{gl:Gl}{a a1:Act}{w w1:World}{G G1:Gh}{hp:Hp}{st:St}{d:Nat}{v:AV}{v':Value}(hc:Came L gl a w G hp a1 w1 G1 st)(hd:d<a1.tmps.size)(hv:RepT w1.heap G1 v' v) :
  Came L gl a w G hp (a1.put (some d) v') w1 G1 (st.upd (some d) v []) :=
 ⟨hc.kept,hc.move,z3l hc.ok hd hv,by rw[zc7,hc.size],hc.defers,hc.hand,.nil⟩
theorem z4f {H:Heap}{G:Gh}(b:Bool):RepT H G (.bool b) (.bool b):=(RepT.of_known rfl).2 ⟨rfl,trivial,[.bool b],⟨rfl,fun j h h'=>by simp at h;subst h;exact .bool _⟩,rfl⟩
theorem z4e {H:Heap}{G:Gh}{v:Value}{full:Bool}{sh:Sh}{l:List AV}(h:RepV H G v (.lst full sh l)):∃q m c,v= .slice q m c/\(q=none->l=[]):=by
 obtain⟨vs,hl,rfl⟩:=h.rep
 have h1:vs.length=1:=by simpa[AV.flat]using hl.len
 match vs,h1 with
 | [u],_ =>
   have:=hl.get 0 (by simp) (by simp[AV.flat])
   simp only[AV.flat,List.getElem_cons_zero]at this
   simp only[zeq,AV.isAgg,Bool.false_eq_true,if_false,List.headD_cons]
   cases this with
   | lstE=>exact⟨_,_,_,rfl,fun _=>rfl⟩
   | lst=>exact⟨_,_,_,rfl,fun h=>by cases h⟩
mutual
theorem Sh.beq_refl :∀s:Sh,Sh.beq s s=true
 | .sc=>rfl
 | .st l=>by simp only[Sh.beq];exact Sh.beqs_refl l
 | .ar n e=>by simp[Sh.beq,Sh.beq_refl e]
theorem Sh.beqs_refl :∀l:List Sh,Sh.beqs l l=true
 | []=>rfl
 | s::l=>by simp[Sh.beqs,Sh.beq_refl s,Sh.beqs_refl l]
end
theorem z2r {gl:Gl}{cl:Cl}{sh sh':Sh}{z:AV}{g:Nat}{st:St}{full:Bool}{l:List AV}(h0:st.fr.get 0= .lst full sh' l)(hp:st.hp=[])(hb:(l.isEmpty||Sh.beq sh sh')=true)(hl:l.length<=LIM)(hg:g<=1024) :
  ∃st5,evC gl cl (zp6 sh z g) st=some (.ret,st5)/\zgp st5 [.tmp 2] [.own sh]=some ([.sl 20000 [] 0 l.length],[.grow sh l]):=by
 obtain⟨fr,hp⟩:=st
 subst hp
 simp only at h0
 have hrefl:Sh.beq sh sh=true:=Sh.beq_refl sh
 have hb':l=[]\/Sh.beq sh sh'=true:=by simpa using hb
 simp[zp6,evC,zcz,zae,zlw,Hp.get,AV.plains,St.upd,Fr.upd,Fr.get,Opd.val,h0,zbp,hg,hb',hl,hrefl,zgp,zbh,zfb,zd7,zgq,zef,zin]
theorem z7f {f:Nat}{fn:Func}{t b e:TypeId}{sh:Sh}{z:AV}{g:Nat}(hmix:P.follows .mixedOrders=true)(hfn:P.funcs[f]? =some fn)(hname:(fn.name== "runtime.NumGoroutine")=false)
  (hbody:fn.body=some (qgr t b)) (hres:mapO (zge P) fn.results.toList=some [.tmp 2]) (hn:8<=fn.ntmps) (ht:P.underlying t=some (.slice e))
  (hA:comp P ⟨[],[],[],[]⟩ 1000000 (zv1 t)=some zty) (hT:comp P ⟨[],[],[],[]⟩ 1000000 (zvz t)=some (.seq zty .ret)) (hE:comp P ⟨[],[],[],[]⟩ 1000000 (zv0 t)=some (zp6 sh z g)) (hgb:g<=1024):qhq P f (zr2 sh):=by
 intro gl cl hcall f' as imps r os es h
 have hF:∀f,Fence.wide.fn f:=fun _=>trivial
 simp only[Option.ite_none_right_eq_some]at h
 obtain⟨rfl,h⟩:=h
 unfold zr2 at h
 split at h
 case h_2=>cases h
 rename_i full sh' l
 rw[Option.ite_none_right_eq_some]at h
 obtain⟨hc0,h⟩:=h
 cases h
 refine⟨⟨fn,hfn,hname,by simp[hbody]⟩,fun n w vs G inv hg hlen hrep=> ?_⟩
 have S:Setting P Fence.wide n gl cl:=⟨hmix,zeb hF rfl hcall n,zde (zeb (fun _=>trivial) rfl hcall n),hF⟩
 have hst:StOk w.heap G {fr:=frOf 0 [.lst full sh' l],hp:=[]} (vs++Array.replicate (fn.ntmps-vs.size) undef):=z65 inv hlen hrep
 have hsz:vs.size=1:=hlen
 have hN:8<=(vs++Array.replicate (fn.ntmps-vs.size) undef).size:=by simp;omega
 refine callsIn_of_wp hfn hbody (hF _) ?_ rfl
 refine wpIn_seq (zgy (L:=False) S (zv1 t) 1000000 zty hA rfl (fun h=>h.elim) (zcj hN _ (by simp[zd9,zv1])) _ w G _ _ .norm hg hst rfl rfl _ fun a1 w1 G1 hc1=> ?_)
 have hc1':=hc1
 refine wpIn_seq (wpIn_seq (wpIn_region ?_))
 have hv:RepV w1.heap G1 (a1.tmps.getD 0 undef) (.lst full sh' l):=(RepT.of_known rfl).1 (hc1.ok.fr 0)
 obtain⟨q,m,c,hq,hnil⟩:=z4e hv
 have hs1:8<=a1.tmps.size:=by rw[hc1.size];exact hN
 rw[show List.range (z2q t b).size=[0,1]from rfl]
 unfold wpOpsIn
 simp only[z2q,List.getElem?_toArray,List.getElem?_cons_zero,Region.wanted,if_true,List.size_toArray]
 refine z7t (v':=.slice q m c) hF (fun c h=>by cases h) (by simp[execOp,Act.eval,hq]) ?_
 refine z7t (v':=.bool q.isNone) hF (fun c h=>by cases h) ?_ ?_
 . have e1:(a1.put (some 3) (Value.slice q m c)).eval (Operand.tmp 3)=Value.slice q m c:=by
    have:=zf5 a1 (some 3) (Value.slice q m c) (fun i hi=>by cases hi;exact wA (by decide) hs1) 3
    simpa[Act.eval]using this
   show(execOp _ {dst:=some 4,op:=Op.binOp BinOp.eql t (Operand.tmp 3) (Operand.const (Value.slice none 0 0)) t,type:=b,pos:= "slices.go:357",after:= #[{on:=0,ground:=Ground.data}],guard:=none}).run P w1=_
   have hgd:∀x y,(eqGuard .eql t x y (.slice q m c) (.slice none 0 0)).run P w1= .ok () w1:=fun x y=>by
    unfold eqGuard;split<;>rfl
   have hcn:(a1.put (some 3) (Value.slice q m c)).eval (Operand.const (Value.slice none 0 0))= .slice none 0 0:=rfl
   simp only[execOp,e1,hcn]
   simp[hgd,Lib.run_eql_slice_nil w1 t e q m c 0 0 ht]
 have hc3:=zv5 (zv5 hc1 (d:=3) (v:=.lst full sh' l) (v':=.slice q m c) (wA (by decide) hs1) (by rw[<-hq];exact hc1.ok.fr 0)) (d:=4) (by rw[zc7];exact wA (by decide) hs1) (z4f q.isNone)
 show Code.wpIn _ n P _ _ ((a1.put (some 3) (Value.slice q m c)).put (some 4) (.bool q.isNone)) w1
 generalize (a1.put (some 3) (Value.slice q m c)).put (some 4) (.bool q.isNone)=a3 at hc3 ⊢
 have hst3:=hc3.ok
 have hx:a3.eval (Operand.tmp 4)= .bool q.isNone:=by
  have:=zct (b:=q.isNone) (hst3.fr 4)
  simpa[Act.eval]using this
 have fin:∀{a' w' G' st'} (z:AV),Came False gl a3 w1 G1 [] a' w' G' st'->zgp st' [.tmp 2] [.own sh]=some ([.sl 20000 [] 0 l.length],[.grow sh l]) ->
   a'.defers=[]/\∃v,(results fn a'.tmps).run P w'= .ok v w'/\∃v1 G1,Ending.returned v= .returned v1/\Kept w w'/\Move w.heap G [] w'.heap G1 ([]++zcg 0 [.grow sh l])/\(([]:Hp)≠[]->∀(q:Nat),SHK<=q->∀(r:Rg),G1.reg q=some r->∃r0,G.reg q=some r0/\r0.le r)/\RepT w'.heap G1 v1 (.sl 20000 [] 0 l.length):=by
  intro a' w' G' st' z hc hz
  have hc':=hc3.trans hc
  obtain⟨v,h1,v1,G2,h2,h3,h4,h5⟩:=zq6 hres hc' hz rfl
  exact⟨hc'.defers,v,h1,v1,G2,h2,h3,h4,fun h=>absurd rfl h,h5⟩
 refine wpIn_cond hx ?_
 cases hq2:q.isNone with
 | true =>
   have hl0:=hnil (by simpa using hq2)
   subst hl0
   rw[if_pos rfl]
   refine zgy (L:=False) S (zvz t) 1000000 _ hT rfl (fun h=>h.elim) (zcj (by rw[hc3.size];exact hN) _ (by simp[zd9,zvz])) a3 w1 G1 _ _ .ret (hg.moved hc3.move) hst3 rfl rfl _ fun a' w' G' hc=> ?_
   exact fin (.bool true) hc rfl
 | false =>
   rw[if_neg (by simp)]
   refine wpIn_skip ?_
   have hb:(l.isEmpty||Sh.beq sh sh')=true/\l.length<=LIM:=by simpa only[Bool.and_eq_true,decide_eq_true_eq]using hc0
   have key:∀(st:St),StOk w1.heap G1 st a3.tmps->st.fr.get 0= .lst full sh' l->st.hp=[]->∃st5,evC gl cl (zp6 sh z g) st=some (.ret,st5)/\zgp st5 [.tmp 2] [.own sh]=some ([.sl 20000 [] 0 l.length],[.grow sh l]) :=
    fun st _ h1 h2=>z2r h1 h2 hb.1 hb.2 hgb
   obtain⟨st5,hev,hpk⟩:=key _ hst3 rfl rfl
   refine zgy (L:=False) S (zv0 t) 1000000 _ hE rfl (fun h=>h.elim) (zcj (by rw[hc3.size];exact hN) _ (by simp[zd9,zv0])) a3 w1 G1 _ _ .ret (hg.moved hc3.move) hst3 rfl hev _ fun a' w' G' hc=> ?_
   exact fin (.bool true) hc hpk
end Go.Ev
namespace Go.Ev
open Go
variable {P :Program} {F:Fence} {n:Nat} {gl:Gl} {cl:Cl} {L:Prop}
end Go.Ev
