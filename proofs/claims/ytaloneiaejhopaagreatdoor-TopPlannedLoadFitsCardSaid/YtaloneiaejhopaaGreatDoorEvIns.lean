/-
  Given functions of the library: slices.Clone. No condition.
-/
import Derived.Test.YtaloneiaejhopaaGreatDoorEvTop
import Derived.Test.YtaloneiaejhopaaGreatDoorEvY
import Derived.WalkSpells
import Derived.TacticsIn
import Derived.Lib.Overlaps
set_option linter.all false
open Go.Operand renaming tmp->wB,const->wC,func->wD
open Option renaming some.injEq->wE,ite_none_right_eq_some->wF,bind_eq_some_iff->wG,map_eq_some_iff->wH,map_some->wJ
open List renaming all_eq_true->wK,map_cons->wM,append_nil->wN,take_take->wO,zip_cons_cons->wP,map_nil->wQ,map_toArray->wR,length_take->wS,cons_append->wT,take_append_of_le_length->wU,nil_append->wW,all_cons->wX,getElem?_cons_zero->wY,take_of_length_le->wZ,getElem?_toArray->w0,mem_singleton->w6,size_toArray->wb
open Nat renaming lt_of_lt_of_le->wd,le_refl->we,sub_zero->wg,zero_mul->wh,add_zero->wi,min_self->wj
open Bool renaming and_eq_true->wk,and_eq_false_iff->wm
open Prod renaming mk.injEq->wn
open Go.Sem renaming run_pure->wo,run_bind->wp
open Go.Result renaming andThen_ok->wr
namespace Go.Ev
open Go
section
variable {P :Program}
def y7 (t:TypeId):Code :=
 (Code.region 3
       #[{dst:=some 5,op:=Op.buildSlice t 0 #[],type:=t,pos:= "slices.go:362",after:= #[],guard:=none},
         {dst:=some 6,op:=Op.move (wB 0),type:=t,pos:= "slices.go:362",after:= #[],guard:=none},
         {dst:=some 7,op:=Op.call {callee:=Callee.builtin Builtin.append,args:= #[wB 5,wB 6],argTypes:= #[t,t]},type:=t,pos:= "slices.go:362",
          after:= #[{on:=0,ground:=Ground.data},{on:=1,ground:=Ground.data}],guard:=none},
         {dst:=some 2,op:=Op.assign (wB 7),type:=t,pos:= "slices.go:362",
          after:= #[{on:=2,ground:=Ground.data},{on:=2,ground:=Ground.chain},{on:=0,ground:=Ground.phase},{on:=1,ground:=Ground.phase},{on:=2,ground:=Ground.phase}],
          guard:=none}]
       false).seq Code.ret
def yY (t:TypeId):Code :=
 (Code.region 2 #[{dst:=some 2,op:=Op.assign (wC (Value.slice none 0 0)),type:=t,pos:= "slices.go:358",after:= #[],guard:=none}] false).seq Code.ret
def Di (t b:TypeId):Array Oper :=
 #[{dst:=some 3,op:=Op.move (wB 0),type:=t,pos:= "slices.go:357",after:= #[],guard:=none},
   {dst:=some 4,op:=Op.binOp BinOp.eql t (wB 3) (wC (Value.slice none 0 0)) t,type:=b,pos:= "slices.go:357",after:= #[{on:=0,ground:=Ground.data}],guard:=none}]
def y8 (t:TypeId):Code :=
 Code.region 0 #[{dst:=some 2,op:=Op.assign (wC (Value.slice none 0 0)),type:=t,pos:= "slices.go:355",after:= #[],guard:=none}] false
def T4 (t b:TypeId):Code :=
 (y8 t).seq (((Code.region 1 (Di t b) false).seq (Code.cond (wB 4) (yY t) Code.skip)).seq (y7 t))
def iY (sh:Sh)(_:Cl)(as:List AV)(imps:Hp):Option (AV×Hp×List OB) :=
 match as,imps with
 | [.lst _ sh' l],[]=>if(l.isEmpty||Sh.beq sh sh')&&decide (l.length<=LIM)then some (.sl 20000 [] 0 l.length,[],[.grow sh l])else none
 | _,_=>none
def yZ :MC:=.reg (.op (some 2) (.mov (.c (.lst true .sc []))) .nil)
def ru (sh:Sh)(z:AV)(g:Nat):MC:=.seq (.reg (.op (some 5) (.bslice sh z 0 []) (.op (some 6) (.mov (.t 0)) (.op (some 7) (.append sh g (.t 5) (.t 6)) (.op (some 2) (.mov (.t 7)) .nil))))) .ret
theorem Hr {F:Fence}{n:Nat}{o:Oper}{a:Act}{w:World}{v':Value}(hF:∀f,F.fn f)(hnd:∀c,o.op≠.defer c)(h:(execOp a.eval o).run P w= .ok (.value v') w){K:Act->World->Prop}{Q:Exit->Act->World->Prop}
  (hK:K (a.put o.dst v') w):o.wpIn F n P a w K Q:=by
 unfold Oper.wpIn;refine⟨fun f _=>hF f,?_⟩;rw[Oper.semAt_eq _ _ _ hnd,h,Oper.uponIn_value];exact hK
theorem Bc {H:aT}{G:Gh}{as:List AV}{imps:Hp}{vs:Array Value}{m:Nat}(inv:Inv H G imps)(hlen:vs.size=as.length)(hrep:∀i (h:i<vs.size) (h':i<as.length),RepV H G vs[i] as[i]) :
  StOk H G {fr:=kr 0 as,hp:=imps} (vs++Array.replicate m undef):=by
 refine⟨inv,fun i=> ?_⟩;rw[oE];by_cases hi:0<=i/\i<0+as.length
 . rw[if_pos hi];have h1:i<vs.size:=by omega
   have h2:i<as.length:=by omega
   have e1:(vs++Array.replicate m undef).getD i undef=vs[i]:=by rw[Array.getD_eq_getD_getElem?,Array.getElem?_append_left h1];simp[h1]
   have e2:as.getD (i-0) .unk=as[i]:=by simp[h2]
   rw[e1,e2];have hv:=hrep i h1 h2;exact(RepT.of_known hv.known).2 hv
 . rw[if_neg hi];trivial
theorem HC {H:aT}{G:Gh}{st:St}{a:Act}{d:Nat}{v:AV}{v':Value}(hst:StOk H G st a.tmps)(hd:d<a.tmps.size)(hv:RepT H G v' v):StOk H G (st.upd (some d) v []) (a.put (some d) v').tmps :=
 hY hst (fun i hi=>by cases hi;exact hd) (Step.refl hst.inv) hv
theorem lH {L:Prop}{gl:Gl}{a a1:Act}{w w1:World}{G G1:Gh}{hp:Hp}{st:St}{d:Nat}{v:AV}{v':Value}(hc:Came L gl a w G hp a1 w1 G1 st)(hd:d<a1.tmps.size)(hv:RepT w1.heap G1 v' v) :
  Came L gl a w G hp (a1.put (some d) v') w1 G1 (st.upd (some d) v []) :=
 ⟨hc.kept,hc.move,HC hc.ok hd hv,by rw[dk,hc.size],hc.defers,hc.hand,.nil⟩
theorem Ig {H:aT}{G:Gh}(b:Bool):RepT H G (.bool b) (.bool b):=(RepT.of_known rfl).2 ⟨rfl,trivial,[.bool b],⟨rfl,fun j h h'=>by simp at h;subst h;exact .bool _⟩,rfl⟩
theorem If {H:aT}{G:Gh}{v:Value}{full:Bool}{sh:Sh}{l:List AV}(h:RepV H G v (.lst full sh l)):∃q m c,v= .slice q m c/\(q=none->l=[]):=by
 obtain⟨vs,hl,rfl⟩:=h.rep;have h1:vs.length=1:=by simpa[AV.flat]using hl.len
 match vs,h1 with
 | [u],_ =>
   have:=hl.get 0 (by simp) (by simp[AV.flat]);simp only[AV.flat,List.getElem_cons_zero]at this;simp only[dQ,AV.isAgg,Bool.false_eq_true,if_false,List.headD_cons]
   cases this with
   | lstE=>exact⟨_,_,_,rfl,fun _=>rfl⟩
   | lst=>exact⟨_,_,_,rfl,fun h=>by cases h⟩
mutual
theorem Sh.beq_refl :∀s:Sh,Sh.beq s s=true
 | .sc=>rfl
 | .st l=>by simp only[Sh.beq];exact Sh.beqs_refl l
 | .ar n e=>by simp[Sh.beq,Sh.beq_refl e]
theorem Sh.beqs_refl :∀l:List Sh,Sh.beqs l l=true
 | []=>rfl
 | s::l=>by simp[Sh.beqs,Sh.beq_refl s,Sh.beqs_refl l]
end
theorem GR {gl:Gl}{cl:Cl}{sh sh':Sh}{z:AV}{g:Nat}{st:St}{full:Bool}{l:List AV}(h0:st.fr.get 0= .lst full sh' l)(hp:st.hp=[])(hb:(l.isEmpty||Sh.beq sh sh')=true)(hl:l.length<=LIM)(hg:g<=1024) :
  ∃st5,evC gl cl (ru sh z g) st=some (.ret,st5)/\gC st5 [.tmp 2] [.own sh]=some ([.sl 20000 [] 0 l.length],[.grow sh l]):=by
 obtain⟨fr,hp⟩:=st;subst hp;simp only at h0;have hrefl:Sh.beq sh sh=true:=Sh.beq_refl sh;have hb':l=[]\/Sh.beq sh sh'=true:=by simpa using hb
 simp[ru,evC,bA,af,jg,Hp.get,AV.plains,St.upd,Fr.upd,Fr.get,Opd.val,h0,bn,hg,hb',hl,hrefl,gC,bY,gm,eY,dR,eL,jh]
theorem uh {f:Nat}{fn:Func}{t b e:TypeId}{sh:Sh}{z:AV}{g:Nat}(hmix:P.follows .mixedOrders=true)(hfn:P.funcs[f]? =some fn)(hname:(fn.name== "runtime.NumGoroutine")=false)
  (hbody:fn.body=some (T4 t b)) (hres:bw (fM P) fn.results.toList=some [.tmp 2]) (hn:8<=fn.ntmps) (ht:P.underlying t=some (.slice e))
  (hA:comp P ⟨[],[],[],[]⟩ 1000000 (y8 t)=some yZ) (hT:comp P ⟨[],[],[],[]⟩ 1000000 (yY t)=some (.seq yZ .ret)) (hE:comp P ⟨[],[],[],[]⟩ 1000000 (y7 t)=some (ru sh z g)) (hgb:g<=1024):LX P f (iY sh):=by
 intro gl cl hcall f' as imps r os es h;have hF:∀f,Fence.wide.fn f:=fun _=>trivial
 simp only[wF]at h;obtain⟨rfl,h⟩:=h;unfold iY at h;split at h
 case h_2=>cases h
 rename_i full sh' l;rw[wF]at h;obtain⟨hc0,h⟩:=h;cases h;refine⟨⟨fn,hfn,hname,by simp[hbody]⟩,fun n w vs G inv hg hlen hrep=> ?_⟩;have S:Setting P Fence.wide n gl cl:=⟨hmix,gu hF rfl hcall n,fy (gu (fun _=>trivial) rfl hcall n),hF⟩;have hst:StOk w.heap G {fr:=kr 0 [.lst full sh' l],hp:=[]} (vs++Array.replicate (fn.ntmps-vs.size) undef):=Bc inv hlen hrep;have hsz:vs.size=1:=hlen;have hN:8<=(vs++Array.replicate (fn.ntmps-vs.size) undef).size:=by simp;omega
 refine callsIn_of_wp hfn hbody (hF _) ?_ rfl;refine wpIn_seq (iR (L:=False) S (y8 t) 1000000 yZ hA rfl (fun h=>h.elim) (cU hN _ (by simp[de,y8])) _ w G _ _ .norm hg hst rfl rfl _ fun a1 w1 G1 hc1=> ?_);have hc1':=hc1;refine wpIn_seq (wpIn_seq (wpIn_region ?_));have hv:RepV w1.heap G1 (a1.tmps.getD 0 undef) (.lst full sh' l):=(RepT.of_known rfl).1 (hc1.ok.fr 0);obtain⟨q,m,c,hq,hnil⟩:=If hv;have hs1:8<=a1.tmps.size:=by rw[hc1.size];exact hN
 rw[show List.range (Di t b).size=[0,1]from rfl];unfold wpOpsIn;simp only[Di,w0,wY,Region.wanted,if_true,wb];refine Hr (v':=.slice q m c) hF (fun c h=>by cases h) (by simp[execOp,Act.eval,hq]) ?_;refine Hr (v':=.bool q.isNone) hF (fun c h=>by cases h) ?_ ?_
 . have e1:(a1.put (some 3) (Value.slice q m c)).eval (wB 3)=Value.slice q m c:=by
    have:=ig a1 (some 3) (Value.slice q m c) (fun i hi=>by cases hi;exact wd (by decide) hs1) 3;simpa[Act.eval]using this
   show(execOp _ {dst:=some 4,op:=Op.binOp BinOp.eql t (wB 3) (wC (Value.slice none 0 0)) t,type:=b,pos:= "slices.go:357",after:= #[{on:=0,ground:=Ground.data}],guard:=none}).run P w1=_;have hgd:∀x y,(eqGuard .eql t x y (.slice q m c) (.slice none 0 0)).run P w1= .ok () w1:=fun x y=>by unfold eqGuard;split<;>rfl
   have hcn:(a1.put (some 3) (Value.slice q m c)).eval (wC (Value.slice none 0 0))= .slice none 0 0:=rfl;simp only[execOp,e1,hcn];simp[hgd,Lib.run_eql_slice_nil w1 t e q m c 0 0 ht]
 have hc3:=lH (lH hc1 (d:=3) (v:=.lst full sh' l) (v':=.slice q m c) (wd (by decide) hs1) (by rw[<-hq];exact hc1.ok.fr 0)) (d:=4) (by rw[dk];exact wd (by decide) hs1) (Ig q.isNone);show Code.wpIn _ n P _ _ ((a1.put (some 3) (Value.slice q m c)).put (some 4) (.bool q.isNone)) w1;generalize (a1.put (some 3) (Value.slice q m c)).put (some 4) (.bool q.isNone)=a3 at hc3 ⊢;have hst3:=hc3.ok;have hx:a3.eval (wB 4)= .bool q.isNone:=by have:=cA (b:=q.isNone) (hst3.fr 4);simpa[Act.eval]using this
 have fin:∀{a' w' G' st'} (z:AV),Came False gl a3 w1 G1 [] a' w' G' st'->gC st' [.tmp 2] [.own sh]=some ([.sl 20000 [] 0 l.length],[.grow sh l]) ->
   a'.defers=[]/\∃v,(results fn a'.tmps).run P w'= .ok v w'/\∃v1 G1,Ending.returned v= .returned v1/\Kept w w'/\Move w.heap G [] w'.heap G1 ([]++cm 0 [.grow sh l])/\(([]:Hp)≠[]->∀(q:Nat),SHK<=q->∀(r:Rg),G1.reg q=some r->∃r0,G.reg q=some r0/\r0.le r)/\RepT w'.heap G1 v1 (.sl 20000 [] 0 l.length):=by
  intro a' w' G' st' z hc hz;have hc':=hc3.trans hc;obtain⟨v,h1,v1,G2,h2,h3,h4,h5⟩:=vH hres hc' hz rfl;exact⟨hc'.defers,v,h1,v1,G2,h2,h3,h4,fun h=>absurd rfl h,h5⟩
 refine wpIn_cond hx ?_
 cases hq2:q.isNone with
 | true =>
   have hl0:=hnil (by simpa using hq2);subst hl0;rw[if_pos rfl];refine iR (L:=False) S (yY t) 1000000 _ hT rfl (fun h=>h.elim) (cU (by rw[hc3.size];exact hN) _ (by simp[de,yY])) a3 w1 G1 _ _ .ret (hg.moved hc3.move) hst3 rfl rfl _ fun a' w' G' hc=> ?_
   exact fin (.bool true) hc rfl
 | false =>
   rw[if_neg (by simp)];refine wpIn_skip ?_;have hb:(l.isEmpty||Sh.beq sh sh')=true/\l.length<=LIM:=by simpa only[wk,decide_eq_true_eq]using hc0
   have key:∀(st:St),StOk w1.heap G1 st a3.tmps->st.fr.get 0= .lst full sh' l->st.hp=[]->∃st5,evC gl cl (ru sh z g) st=some (.ret,st5)/\gC st5 [.tmp 2] [.own sh]=some ([.sl 20000 [] 0 l.length],[.grow sh l]) :=
    fun st _ h1 h2=>GR h1 h2 hb.1 hb.2 hgb
   obtain⟨st5,hev,hpk⟩:=key _ hst3 rfl rfl;refine iR (L:=False) S (y7 t) 1000000 _ hE rfl (fun h=>h.elim) (cU (by rw[hc3.size];exact hN) _ (by simp[de,y7])) a3 w1 G1 _ _ .ret (hg.moved hc3.move) hst3 rfl hev _ fun a' w' G' hc=> ?_
   exact fin (.bool true) hc hpk
end
section
variable {P :Program} {F:Fence} {n:Nat} {gl:Gl} {cl:Cl} {L:Prop}
theorem N1 {fn:Func}{rds:List ResD}(hres:bw (fM P) fn.results.toList=some rds){imps:Hp}{a a':Act}{w w':World}{G G':Gh}{st':St}(hc:Came True gl a w G imps a' w' G' st'){rs:List AV}(hrs:bY st' rds=some rs)
  {E:List Nat} {z:List AV×Hp×List OB} (hz:fO st' (eT imps) rs E=some z) {r:AV} {os:Hp} {es:List OB} (he:(sF z.1,z.2.1,z.2.2)=(r,os,es)) :
  ∃v,(results fn a'.tmps).run P w'= .ok v w'/\∃v1 G1,Ending.returned v= .returned v1/\Kept w w'/\Move w.heap G imps w'.heap G1 (os++cm 0 es)/\(imps≠[]->∀q,SHK<=q->∀r,G1.reg q=some r->∃r0,G.reg q=some r0/\r0.le r)/\RepT w'.heap G1 v1 r:=by
 obtain⟨l,os',es'⟩:=z;simp only[wn]at he;obtain⟨he1,rfl,rfl⟩:=he;obtain⟨us,g1,g2,g3,g4⟩:=jD hc.ok hres hrs;obtain⟨k1,k2,kh,k3,k4⟩:=sy hc.ok hz (by omega) g4;have hrun:=kJ (fn:=fn) (vs:=us) (by simpa using g1) fun i hi hi'=>by have:=g3 i (by simpa using hi) hi';simpa using this
 refine⟨_,hrun,_,jn G' (eT imps) E,rfl,hc.kept,?_,fun _ q hq r hr=>hc.hand trivial q hq r (kh q hq r hr),?_⟩
 . have m:=hc.move;exact⟨k1,m.size,m.imm,m.yl,m.same,fun b hb=>m.live b (k2 b hb),m.immNew⟩
 . subst he1
   match us,l,k3,g1,g2,k4 with
   | [],[],_,_,_,_=>exact⟨#[],rfl,rfl,fun i h=>by simp at h⟩
   | [u],[x],_,_,_,k4 =>have:=k4 0 (by simp) (by simp);exact(RepT.of_known this.known).2 this
   | u1::u2::us,x1::x2::l,_,_,_,k4 =>refine⟨_,rfl,by simp only[wb];simp only[List.length_cons]at *;omega,fun i h h'=> ?_⟩;have:=k4 i (by simpa using h) h';simpa using this
   | [],_::_,h1,h2,h3,_=>simp at *;omega
   | [_],[],h1,h2,h3,_=>simp at *;omega
   | [_],_::_::_,h1,h2,h3,_=>simp at *;omega
   | _::_::_,[],h1,h2,h3,_=>simp at *;omega
   | _::_::_,[_],h1,h2,h3,_=>simp at *;omega
theorem pY {a:Act}{w:World}{G:Gh}{st:St}(h:StOk w.heap G st a.tmps):Came L gl a w G st.hp a w G st :=
 ⟨Kept.refl w,Move.refl h.inv,h,rfl,rfl,fun _ _ _ r h=>⟨r,h,Rg.le_refl r⟩,.nil⟩
theorem xp {a a1:Act}{w w1 w2:World}{G G1 G2:Gh}{hp:Hp}{st:St}{d:Option Nat}{v:AV}{v':Value}{us:Hp}(hc:Came L gl a w G hp a1 w1 G1 st)(hd:∀i,d=some i->i<a1.tmps.size)(hk:Kept w1 w2)
  (hs:Step w1.heap G1 st.hp w2.heap G2 (us++st.hp)) (hv:RepT w2.heap G2 v' v) (hlt:L->∀k o,(k,o)∈us->st.hp.get k≠none\/k<SHK) :
  Came L gl a w G hp (a1.put d v') w2 G2 (st.upd d v us) :=
 hc.trans ⟨hk,hs.move,hY hc.ok hd hs hv,dk _ _ _,jF _ _ _,fun l q hq r hr=>fW hc.ok.inv hs (fun q hq hn=>nN (fr:=st.fr) (hlt l) hq hn) hq hr,.nil⟩
theorem uj {a a1:Act}{w w1:World}{G G1 G2:Gh}{hp:Hp}{st:St}{us:Hp}(hc:Came L gl a w G hp a1 w1 G1 st)
  (hs:Step w1.heap G1 st.hp w1.heap G2 (us++st.hp)) (hlt:L->∀k o,(k,o)∈us->st.hp.get k≠none\/k<SHK):Came L gl a w G hp a1 w1 G2 {fr:=st.fr,hp:=us++st.hp} :=
 hc.trans ⟨Kept.refl _,hs.move,⟨hs.inv,fun i=>(hc.ok.fr i).mono hs.le⟩,rfl,rfl,fun l q hq r hr=>fW hc.ok.inv hs (fun q hq hn=>nN (fr:=st.fr) (hlt l) hq hn) hq hr,.nil⟩
theorem EM {a a1:Act}{w w1:World}{G G1:Gh}{hp:Hp}{st:St}{fr:Fr}(hc:Came L gl a w G hp a1 w1 G1 st)(h:∀i,RepT w1.heap G1 (a1.tmps.getD i undef) (fr.get i)):Came L gl a w G hp a1 w1 G1 {fr,hp:=st.hp} :=
 ⟨hc.kept,hc.move,⟨hc.ok.inv,h⟩,hc.size,hc.defers,hc.hand,.nil⟩
def iO :List (Option Nat×MOp)->Its
 | []=>.nil
 | (d,m)::l=>.op d m (iO l)
theorem jJ {im:Im}{ops:Array Oper}{Q:Exit->Act->World->Prop}(hop:zA F n P gl cl):∀(os:List Oper) (ms:List MOp),bw (aF P im) os=some ms->(∀o∈os,o.guard=none) ->
  ∀(a:Act) (w:World) (G:Gh) (st st':St),(∀o∈os,∀d,o.dst=some d->d<a.tmps.size)->(L->(os.zip ms).all (fun q=>ltO q.1.dst)=true)->GlOk w.heap G gl->StOk w.heap G st a.tmps ->
   bA gl cl (iO ((os.zip ms).map fun q=>(q.1.dst,q.2))) st=some st'->∀rest,(∀a' w' G',Came L gl a w G st.hp a' w' G' st'->wpListIn F n P ops Q rest a' w')->wpListIn F n P ops Q (os++rest) a w
 | [],ms,h,_,a,w,G,st,st',_,_,_,hst,hev,rest,hK=>by simp only[bw,wE]at h;subst h;simp only[List.zip_nil_left,wQ,iO,bA,wE]at hev;subst hev;exact hK a w G (pY hst)
 | o::os,ms,h,hgd,a,w,G,st,st',hd,hlt,hg,hst,hev,rest,hK=>by
   simp only[bw,wG,wH]at h;obtain⟨m,hm,ms',hms,rfl⟩:=h;simp only[wP,wM,iO,bA,wG]at hev;obtain⟨⟨v,us⟩,h1,hev⟩:=hev;refine wpListIn_plain (hgd o (by simp)) fun K hK'=>hop o m a w G st v us hg hst hm h1 K Q fun v' w' G' hk hs hv=>hK' _ _ ?_
   have hdo:∀i,o.dst=some i->i<a.tmps.size:=fun i hi=>hd o (by simp) i hi
   have hc1:Came L gl a w G st.hp (a.put o.dst v') w' G' (st.upd o.dst v us):=xp (pY hst) hdo hk hs hv fun l=>by have:=hlt l;simp only[wP,wX,wk]at this;exact mQ this.1 h1
   refine jJ hop os ms' hms (fun o ho=>hgd o (by simp[ho])) _ w' G' _ st' (fun o ho d hd'=>by rw[dk];exact hd o (by simp[ho]) d hd') (fun l=>by
    have:=hlt l;simp only[wP,wX,wk]at this;exact this.2) (hg.mono hs.le) hc1.ok hev rest fun a2 w2 G2 hc2=>hK a2 w2 G2 (hc1.trans hc2)
theorem xA {ops:Array Oper}{Q:Exit->Act->World->Prop}{o:Oper}{rest:List Oper}{a:Act}{w w':World}{v':Value}(hF:∀f,F.fn f)(hgd:o.guard=none)(hnd:∀c,o.op≠.defer c)(h:(execOp a.eval o).run P w= .ok (.value v') w')
  (hK:wpListIn F n P ops Q rest (a.put o.dst v') w'):wpListIn F n P ops Q (o::rest) a w:=by
 refine wpListIn_plain hgd fun K hK'=> ?_
 unfold Oper.wpIn;refine⟨fun f _=>hF f,?_⟩;rw[Oper.semAt_eq _ _ _ hnd,h,Oper.uponIn_value];exact hK' _ _ hK
def UI (cs:List Code)(rest:Code):Code:=cs.foldr Code.seq rest
def qB (gl:Gl)(cl:Cl):List MC->St->Option (Ex×St)
 | [],st=>some (.norm,st)
 | m::ms,st=>(evC gl cl m st).bind fun r=>match r.1 with
   | .norm=>qB gl cl ms r.2
   | e=>some (e,r.2)
theorem xJ {an:Ann}{id N:Nat}(S:Setting P F n gl cl):∀(cs:List Code) (ms:List MC),bw (comp P an id) cs=some ms->ms.all (fun m=> !cE m)=true->(L->ms.all gR=true)->cs.all (de N)=true->∀(a:Act) (w:World) (G:Gh) (st st':St) (e:Ex),
  GlOk w.heap G gl->StOk w.heap G st a.tmps->a.tmps.size=N->qB gl cl ms st=some (e,st')->∀(Q:Exit->Act->World->Prop) (rest:Code),
   (∀a' w' G',Came L gl a w G st.hp a' w' G' st'->match e with| .norm=>rest.wpIn F n P Q a' w'|e=>Q (C4 e) a' w')->(UI cs rest).wpIn F n P Q a w
 | [],ms,h,_,_,_,a,w,G,st,st',e,hg,hst,hN,hev,Q,rest,hK=>by simp only[bw,wE]at h;subst h;simp only[qB,wE,wn]at hev;obtain⟨rfl,rfl⟩:=hev;exact hK a w G (pY hst)
 | c::cs,ms,h,hrf,hlt,hd,a,w,G,st,st',e,hg,hst,hN,hev,Q,rest,hK=>by
   simp only[bw,wG,wH]at h;obtain⟨m,hm,ms',hms,rfl⟩:=h;simp only[wX,wk]at hlt hd hrf;simp only[qB,wG]at hev;obtain⟨⟨e1,st1⟩,h1,hev⟩:=hev;refine wpIn_seq (iR (L:=L) S c id m hm (by simpa using hrf.1) (fun l=>(hlt l).1) hd.1 a w G st st1 e1 hg hst hN h1 _ fun a1 w1 G1 hc1=> ?_)
   cases e1 with
   | norm =>exact xJ S cs ms' hms hrf.2 (fun l=>(hlt l).2) hd.2 a1 w1 G1 st1 st' e (hg.moved hc1.move) hc1.ok (hc1.size.trans hN) hev Q rest fun a2 w2 G2 hc2=>hK a2 w2 G2 (hc1.trans hc2)
   | exit j =>simp only[wE,wn]at hev;obtain⟨rfl,rfl⟩:=hev;exact hK a1 w1 G1 hc1
   | ret =>simp only[wE,wn]at hev;obtain⟨rfl,rfl⟩:=hev;exact hK a1 w1 G1 hc1
def df (fr:Fr)(ks:List Nat):Fr:=ks.map fun i=>.set i (fr.get i)
theorem tr {fr:Fr}:∀{ks:List Nat} {i:Nat},(df fr ks).get i=fr.get i\/(df fr ks).get i= .unk
 | [],i=>.inr rfl
 | k::ks,i=>by
   simp only[df,wM,Fr.get];by_cases h:k=i
   . subst h;simp
   . rw[if_neg h];exact tr (ks:=ks)
theorem cI {a a1:Act}{w w1:World}{G G1:Gh}{hp:Hp}{st:St}(ks:List Nat)(hc:Came L gl a w G hp a1 w1 G1 st):Came L gl a w G hp a1 w1 G1 {fr:=df st.fr ks,hp:=st.hp} :=
 EM hc fun i=>by
  rcases tr (fr:=st.fr) (ks:=ks) (i:=i)with h|h<;>rw[h]
  . exact hc.ok.fr i
  . trivial
end
set_option maxRecDepth 20000
def PH (t it bt ut:TypeId)(ov rr:Nat):Code :=
 Code.region 0 #[{dst:=some 6,op:=Op.assign (wC (Value.slice none 0 0)),type:=t,pos:= "slices.go:136",after:= #[],guard:=none}] false
def PG (t it bt ut:TypeId)(ov rr:Nat):Code :=
 Code.region 1 #[{dst:=some 10,op:=Op.move (wB 0),type:=t,pos:= "slices.go:137",after:= #[],guard:=none},{dst:=some 11,op:=Op.move (wB 1),type:=it,pos:= "slices.go:137",after:= #[],guard:=none},{dst:=some 12,op:=Op.slice t (wB 10) (some (wB 11)) none none,type:=t,pos:= "slices.go:137",after:= #[{on:=0,ground:=Ground.data},{on:=1,ground:=Ground.data}],guard:=none}] false
def PE (t it bt ut:TypeId)(ov rr:Nat):Code :=
 Code.region 2 #[{dst:=some 13,op:=Op.move (wB 2),type:=t,pos:= "slices.go:139",after:= #[],guard:=none},{dst:=some 14,op:=Op.call {callee:=Callee.builtin Builtin.len,args:= #[wB 13],argTypes:= #[t]},type:=it,pos:= "slices.go:139",after:= #[{on:=0,ground:=Ground.data}],guard:=none},{dst:=some 7,op:=Op.assign (wB 14),type:=it,pos:= "slices.go:139",after:= #[{on:=1,ground:=Ground.data},{on:=0,ground:=Ground.phase},{on:=1,ground:=Ground.phase}],guard:=none}] false
def PD (t it bt ut:TypeId)(ov rr:Nat):Code :=
 Code.region 3 #[{dst:=some 15,op:=Op.move (wB 7),type:=it,pos:= "slices.go:140",after:= #[],guard:=none},{dst:=some 16,op:=Op.binOp BinOp.eql it (wB 15) (wC (Value.int IntKind.i64 0)) it,type:=bt,pos:= "slices.go:140",after:= #[{on:=0,ground:=Ground.data}],guard:=none}] false
def PC (t it bt ut:TypeId)(ov rr:Nat):Code :=
 Code.region 4 #[{dst:=some 17,op:=Op.move (wB 0),type:=t,pos:= "slices.go:141",after:= #[],guard:=none},{dst:=some 6,op:=Op.assign (wB 17),type:=t,pos:= "slices.go:141",after:= #[{on:=0,ground:=Ground.data},{on:=0,ground:=Ground.phase}],guard:=none}] false
def PA (t it bt ut:TypeId)(ov rr:Nat):Code :=
 Code.region 5 #[{dst:=some 18,op:=Op.move (wB 0),type:=t,pos:= "slices.go:143",after:= #[],guard:=none},{dst:=some 19,op:=Op.call {callee:=Callee.builtin Builtin.len,args:= #[wB 18],argTypes:= #[t]},type:=it,pos:= "slices.go:143",after:= #[{on:=0,ground:=Ground.data}],guard:=none},{dst:=some 8,op:=Op.assign (wB 19),type:=it,pos:= "slices.go:143",after:= #[{on:=1,ground:=Ground.data},{on:=0,ground:=Ground.phase},{on:=1,ground:=Ground.phase}],guard:=none}] false
def Pz (t it bt ut:TypeId)(ov rr:Nat):Code :=
 Code.region 6 #[{dst:=some 20,op:=Op.move (wB 1),type:=it,pos:= "slices.go:144",after:= #[],guard:=none},{dst:=some 21,op:=Op.move (wB 8),type:=it,pos:= "slices.go:144",after:= #[],guard:=none},{dst:=some 22,op:=Op.binOp BinOp.eql it (wB 20) (wB 21) it,type:=bt,pos:= "slices.go:144",after:= #[{on:=0,ground:=Ground.data},{on:=1,ground:=Ground.data}],guard:=none}] false
def Py (t it bt ut:TypeId)(ov rr:Nat):Code :=
 Code.region 7 #[{dst:=some 23,op:=Op.move (wB 0),type:=t,pos:= "slices.go:145",after:= #[],guard:=none},{dst:=some 24,op:=Op.move (wB 2),type:=t,pos:= "slices.go:145",after:= #[],guard:=none},{dst:=some 25,op:=Op.call {callee:=Callee.builtin Builtin.append,args:= #[wB 23,wB 24],argTypes:= #[t,t]},type:=t,pos:= "slices.go:145",after:= #[{on:=0,ground:=Ground.data},{on:=1,ground:=Ground.data}],guard:=none},{dst:=some 6,op:=Op.assign (wB 25),type:=t,pos:= "slices.go:145",after:= #[{on:=2,ground:=Ground.data},{on:=2,ground:=Ground.chain},{on:=0,ground:=Ground.phase},{on:=1,ground:=Ground.phase},{on:=2,ground:=Ground.phase}],guard:=none}] false
def vW (t it bt ut:TypeId)(ov rr:Nat):List Oper :=
 [{dst:=some 26,op:=Op.move (wB 8),type:=it,pos:= "slices.go:147",after:= #[],guard:=none},{dst:=some 27,op:=Op.move (wB 7),type:=it,pos:= "slices.go:147",after:= #[],guard:=none},{dst:=some 28,op:=Op.binOp BinOp.add it (wB 26) (wB 27) it,type:=it,pos:= "slices.go:147",after:= #[{on:=0,ground:=Ground.data},{on:=1,ground:=Ground.data}],guard:=none},{dst:=some 29,op:=Op.move (wB 0),type:=t,pos:= "slices.go:147",after:= #[],guard:=none}]
def Ep (t it bt ut:TypeId)(ov rr:Nat):Oper :=
 {dst:=some 30,op:=Op.call {callee:=Callee.builtin Builtin.cap,args:= #[wB 29],argTypes:= #[t]},type:=it,pos:= "slices.go:147",after:= #[{on:=3,ground:=Ground.data}],guard:=none}
def qu (t it bt ut:TypeId)(ov rr:Nat):List Oper :=
 [{dst:=some 31,op:=Op.binOp BinOp.gtr it (wB 28) (wB 30) it,type:=bt,pos:= "slices.go:147",after:= #[{on:=2,ground:=Ground.data},{on:=4,ground:=Ground.data}],guard:=none}]
def Px (t it bt ut:TypeId)(ov rr:Nat):Code:=Code.region 8 (vW t it bt ut ov rr++Ep t it bt ut ov rr::qu t it bt ut ov rr).toArray false
def vV (t it bt ut:TypeId)(ov rr:Nat):List Oper :=
 [{dst:=some 32,op:=Op.move (wB 0),type:=t,pos:= "slices.go:152",after:= #[],guard:=none},{dst:=some 33,op:=Op.move (wB 1),type:=it,pos:= "slices.go:152",after:= #[],guard:=none},{dst:=some 34,op:=Op.slice t (wB 32) none (some (wB 33)) none,type:=t,pos:= "slices.go:152",after:= #[{on:=0,ground:=Ground.data},{on:=1,ground:=Ground.data}],guard:=none},{dst:=some 35,op:=Op.move (wB 8),type:=it,pos:= "slices.go:152",after:= #[],guard:=none},{dst:=some 36,op:=Op.move (wB 7),type:=it,pos:= "slices.go:152",after:= #[],guard:=none},{dst:=some 37,op:=Op.binOp BinOp.add it (wB 35) (wB 36) it,type:=it,pos:= "slices.go:152",after:= #[{on:=3,ground:=Ground.data},{on:=4,ground:=Ground.data}],guard:=none},{dst:=some 38,op:=Op.move (wB 1),type:=it,pos:= "slices.go:152",after:= #[],guard:=none},{dst:=some 39,op:=Op.binOp BinOp.sub it (wB 37) (wB 38) it,type:=it,pos:= "slices.go:152",after:= #[{on:=5,ground:=Ground.data},{on:=6,ground:=Ground.data}],guard:=none}]
def Eo (t it bt ut:TypeId)(ov rr:Nat):Oper :=
 {dst:=some 40,op:=Op.call {callee:=Callee.builtin Builtin.append,args:= #[wB 34,wB 39],argTypes:= #[t,it]},type:=t,pos:= "slices.go:152",after:= #[{on:=2,ground:=Ground.data},{on:=7,ground:=Ground.data}],guard:=none}
def vU (t it bt ut:TypeId)(ov rr:Nat):List Oper :=
 [{dst:=some 9,op:=Op.assign (wB 40),type:=t,pos:= "slices.go:152",after:= #[{on:=8,ground:=Ground.data},{on:=8,ground:=Ground.chain},{on:=0,ground:=Ground.phase},{on:=1,ground:=Ground.phase},{on:=2,ground:=Ground.phase},{on:=3,ground:=Ground.phase},{on:=4,ground:=Ground.phase},{on:=5,ground:=Ground.phase},{on:=6,ground:=Ground.phase},{on:=7,ground:=Ground.phase},{on:=8,ground:=Ground.phase}],guard:=none}]
def Pw (t it bt ut:TypeId)(ov rr:Nat):Code:=Code.region 9 (vV t it bt ut ov rr++Eo t it bt ut ov rr::vU t it bt ut ov rr).toArray false
def JH (t it bt ut:TypeId)(ov rr:Nat):Code :=
 Code.region 10 #[{dst:=some 41,op:=Op.move (wB 9),type:=t,pos:= "slices.go:153",after:= #[],guard:=none},{dst:=some 42,op:=Op.move (wB 1),type:=it,pos:= "slices.go:153",after:= #[],guard:=none},{dst:=some 43,op:=Op.slice t (wB 41) (some (wB 42)) none none,type:=t,pos:= "slices.go:153",after:= #[{on:=0,ground:=Ground.data},{on:=1,ground:=Ground.data}],guard:=none},{dst:=some 44,op:=Op.move (wB 2),type:=t,pos:= "slices.go:153",after:= #[],guard:=none},{dst:=some 45,op:=Op.call {callee:=Callee.builtin Builtin.copy,args:= #[wB 43,wB 44],argTypes:= #[t,t]},type:=it,pos:= "slices.go:153",after:= #[{on:=2,ground:=Ground.data},{on:=3,ground:=Ground.data}],guard:=none}] false
def JG (t it bt ut:TypeId)(ov rr:Nat):Code :=
 Code.region 11 #[{dst:=some 46,op:=Op.move (wB 9),type:=t,pos:= "slices.go:154",after:= #[],guard:=none},{dst:=some 47,op:=Op.move (wB 1),type:=it,pos:= "slices.go:154",after:= #[],guard:=none},{dst:=some 48,op:=Op.move (wB 7),type:=it,pos:= "slices.go:154",after:= #[],guard:=none},{dst:=some 49,op:=Op.binOp BinOp.add it (wB 47) (wB 48) it,type:=it,pos:= "slices.go:154",after:= #[{on:=1,ground:=Ground.data},{on:=2,ground:=Ground.data}],guard:=none},{dst:=some 50,op:=Op.slice t (wB 46) (some (wB 49)) none none,type:=t,pos:= "slices.go:154",after:= #[{on:=0,ground:=Ground.data},{on:=3,ground:=Ground.data}],guard:=none},{dst:=some 51,op:=Op.move (wB 0),type:=t,pos:= "slices.go:154",after:= #[],guard:=none},{dst:=some 52,op:=Op.move (wB 1),type:=it,pos:= "slices.go:154",after:= #[],guard:=none},{dst:=some 53,op:=Op.slice t (wB 51) (some (wB 52)) none none,type:=t,pos:= "slices.go:154",after:= #[{on:=5,ground:=Ground.data},{on:=6,ground:=Ground.data}],guard:=none},{dst:=some 54,op:=Op.call {callee:=Callee.builtin Builtin.copy,args:= #[wB 50,wB 53],argTypes:= #[t,t]},type:=it,pos:= "slices.go:154",after:= #[{on:=4,ground:=Ground.data},{on:=7,ground:=Ground.data}],guard:=none}] true
def JF (t it bt ut:TypeId)(ov rr:Nat):Code :=
 Code.region 12 #[{dst:=some 55,op:=Op.move (wB 9),type:=t,pos:= "slices.go:155",after:= #[],guard:=none},{dst:=some 6,op:=Op.assign (wB 55),type:=t,pos:= "slices.go:155",after:= #[{on:=0,ground:=Ground.data},{on:=0,ground:=Ground.phase}],guard:=none}] false
def pK (t it bt ut:TypeId)(ov rr:Nat):List Oper :=
 [{dst:=some 56,op:=Op.move (wB 0),type:=t,pos:= "slices.go:157",after:= #[],guard:=none},{dst:=some 57,op:=Op.move (wB 8),type:=it,pos:= "slices.go:157",after:= #[],guard:=none},{dst:=some 58,op:=Op.move (wB 7),type:=it,pos:= "slices.go:157",after:= #[],guard:=none},{dst:=some 59,op:=Op.binOp BinOp.add it (wB 57) (wB 58) it,type:=it,pos:= "slices.go:157",after:= #[{on:=1,ground:=Ground.data},{on:=2,ground:=Ground.data}],guard:=none}]
def yB (t it bt ut:TypeId)(ov rr:Nat):Oper :=
 {dst:=some 60,op:=Op.slice t (wB 56) none (some (wB 59)) none,type:=t,pos:= "slices.go:157",after:= #[{on:=0,ground:=Ground.data},{on:=3,ground:=Ground.data}],guard:=none}
def pI (t it bt ut:TypeId)(ov rr:Nat):List Oper :=
 [{dst:=some 0,op:=Op.assign (wB 60),type:=t,pos:= "slices.go:157",after:= #[{on:=4,ground:=Ground.data},{on:=0,ground:=Ground.phase},{on:=1,ground:=Ground.phase},{on:=2,ground:=Ground.phase},{on:=3,ground:=Ground.phase},{on:=4,ground:=Ground.phase}],guard:=none}]
def JE (t it bt ut:TypeId)(ov rr:Nat):Code:=Code.region 13 (pK t it bt ut ov rr++yB t it bt ut ov rr::pI t it bt ut ov rr).toArray false
def pJ (t it bt ut:TypeId)(ov rr:Nat):List Oper :=
 [{dst:=some 61,op:=Op.move (wB 2),type:=t,pos:= "slices.go:173",after:= #[],guard:=none},{dst:=some 62,op:=Op.move (wB 0),type:=t,pos:= "slices.go:173",after:= #[],guard:=none},{dst:=some 63,op:=Op.move (wB 1),type:=it,pos:= "slices.go:173",after:= #[],guard:=none},{dst:=some 64,op:=Op.move (wB 7),type:=it,pos:= "slices.go:173",after:= #[],guard:=none},{dst:=some 65,op:=Op.binOp BinOp.add it (wB 63) (wB 64) it,type:=it,pos:= "slices.go:173",after:= #[{on:=2,ground:=Ground.data},{on:=3,ground:=Ground.data}],guard:=none},{dst:=some 66,op:=Op.slice t (wB 62) (some (wB 65)) none none,type:=t,pos:= "slices.go:173",after:= #[{on:=1,ground:=Ground.data},{on:=4,ground:=Ground.data}],guard:=none}]
def yA (t it bt ut:TypeId)(ov rr:Nat):Oper :=
 {dst:=some 67,op:=Op.call {callee:=Callee.value (wD ov),args:= #[wB 61,wB 66],argTypes:= #[t,t]},type:=bt,pos:= "slices.go:173",after:= #[{on:=0,ground:=Ground.data},{on:=5,ground:=Ground.data}],guard:=none}
def pH (t it bt ut:TypeId)(ov rr:Nat):List Oper :=
 [{dst:=some 68,op:=Op.unOp UnOp.not bt (wB 67),type:=bt,pos:= "slices.go:173",after:= #[{on:=6,ground:=Ground.data}],guard:=none}]
def JD (t it bt ut:TypeId)(ov rr:Nat):Code:=Code.region 14 (pJ t it bt ut ov rr++yA t it bt ut ov rr::pH t it bt ut ov rr).toArray false
def JC (t it bt ut:TypeId)(ov rr:Nat):Code :=
 Code.region 15 #[{dst:=some 69,op:=Op.move (wB 0),type:=t,pos:= "slices.go:178",after:= #[],guard:=none},{dst:=some 70,op:=Op.move (wB 1),type:=it,pos:= "slices.go:178",after:= #[],guard:=none},{dst:=some 71,op:=Op.move (wB 7),type:=it,pos:= "slices.go:178",after:= #[],guard:=none},{dst:=some 72,op:=Op.binOp BinOp.add it (wB 70) (wB 71) it,type:=it,pos:= "slices.go:178",after:= #[{on:=1,ground:=Ground.data},{on:=2,ground:=Ground.data}],guard:=none},{dst:=some 73,op:=Op.slice t (wB 69) (some (wB 72)) none none,type:=t,pos:= "slices.go:178",after:= #[{on:=0,ground:=Ground.data},{on:=3,ground:=Ground.data}],guard:=none},{dst:=some 74,op:=Op.move (wB 0),type:=t,pos:= "slices.go:178",after:= #[],guard:=none},{dst:=some 75,op:=Op.move (wB 1),type:=it,pos:= "slices.go:178",after:= #[],guard:=none},{dst:=some 76,op:=Op.slice t (wB 74) (some (wB 75)) none none,type:=t,pos:= "slices.go:178",after:= #[{on:=5,ground:=Ground.data},{on:=6,ground:=Ground.data}],guard:=none},{dst:=some 77,op:=Op.call {callee:=Callee.builtin Builtin.copy,args:= #[wB 73,wB 76],argTypes:= #[t,t]},type:=it,pos:= "slices.go:178",after:= #[{on:=4,ground:=Ground.data},{on:=7,ground:=Ground.data}],guard:=none}] true
def JB (t it bt ut:TypeId)(ov rr:Nat):Code :=
 Code.region 16 #[{dst:=some 78,op:=Op.move (wB 0),type:=t,pos:= "slices.go:186",after:= #[],guard:=none},{dst:=some 79,op:=Op.move (wB 1),type:=it,pos:= "slices.go:186",after:= #[],guard:=none},{dst:=some 80,op:=Op.slice t (wB 78) (some (wB 79)) none none,type:=t,pos:= "slices.go:186",after:= #[{on:=0,ground:=Ground.data},{on:=1,ground:=Ground.data}],guard:=none},{dst:=some 81,op:=Op.move (wB 2),type:=t,pos:= "slices.go:186",after:= #[],guard:=none},{dst:=some 82,op:=Op.call {callee:=Callee.builtin Builtin.copy,args:= #[wB 80,wB 81],argTypes:= #[t,t]},type:=it,pos:= "slices.go:186",after:= #[{on:=2,ground:=Ground.data},{on:=3,ground:=Ground.data}],guard:=none}] false
def JA (t it bt ut:TypeId)(ov rr:Nat):Code :=
 Code.region 17 #[{dst:=some 83,op:=Op.move (wB 0),type:=t,pos:= "slices.go:193",after:= #[],guard:=none},{dst:=some 6,op:=Op.assign (wB 83),type:=t,pos:= "slices.go:193",after:= #[{on:=0,ground:=Ground.data},{on:=0,ground:=Ground.phase}],guard:=none}] false
def Ss (t it bt ut:TypeId)(ov rr:Nat):Code :=
 Code.region 18 #[{dst:=some 84,op:=Op.move (wB 0),type:=t,pos:= "slices.go:200",after:= #[],guard:=none},{dst:=some 85,op:=Op.move (wB 8),type:=it,pos:= "slices.go:200",after:= #[],guard:=none},{dst:=some 86,op:=Op.slice t (wB 84) (some (wB 85)) none none,type:=t,pos:= "slices.go:200",after:= #[{on:=0,ground:=Ground.data},{on:=1,ground:=Ground.data}],guard:=none},{dst:=some 87,op:=Op.move (wB 2),type:=t,pos:= "slices.go:200",after:= #[],guard:=none},{dst:=some 88,op:=Op.call {callee:=Callee.builtin Builtin.copy,args:= #[wB 86,wB 87],argTypes:= #[t,t]},type:=it,pos:= "slices.go:200",after:= #[{on:=2,ground:=Ground.data},{on:=3,ground:=Ground.data}],guard:=none}] false
def Sr (t it bt ut:TypeId)(ov rr:Nat):Code :=
 Code.region 19 #[{dst:=some 89,op:=Op.move (wB 0),type:=t,pos:= "slices.go:207",after:= #[],guard:=none},{dst:=some 90,op:=Op.move (wB 1),type:=it,pos:= "slices.go:207",after:= #[],guard:=none},{dst:=some 91,op:=Op.slice t (wB 89) (some (wB 90)) none none,type:=t,pos:= "slices.go:207",after:= #[{on:=0,ground:=Ground.data},{on:=1,ground:=Ground.data}],guard:=none},{dst:=some 92,op:=Op.move (wB 7),type:=it,pos:= "slices.go:207",after:= #[],guard:=none},{dst:=some 93,op:=Op.call {callee:=Callee.value (wD rr),args:= #[wB 91,wB 92],argTypes:= #[t,it]},type:=ut,pos:= "slices.go:207",after:= #[{on:=2,ground:=Ground.data},{on:=3,ground:=Ground.data}],guard:=none}] false
def Sq (t it bt ut:TypeId)(ov rr:Nat):Code :=
 Code.region 20 #[{dst:=some 94,op:=Op.move (wB 0),type:=t,pos:= "slices.go:214",after:= #[],guard:=none},{dst:=some 6,op:=Op.assign (wB 94),type:=t,pos:= "slices.go:214",after:= #[{on:=0,ground:=Ground.data},{on:=0,ground:=Ground.phase}],guard:=none}] false
section
variable (t it bt ut:TypeId) (ov rr:Nat)
def Pv :Code:=Code.seq (PD t it bt ut ov rr) (Code.cond (wB 16) (Code.seq (PC t it bt ut ov rr) Code.ret) Code.skip)
def Pu :Code:=Code.seq (Pz t it bt ut ov rr) (Code.cond (wB 22) (Code.seq (Py t it bt ut ov rr) Code.ret) Code.skip)
def yz :List Code:=[PH t it bt ut ov rr,PG t it bt ut ov rr,PE t it bt ut ov rr,Pv t it bt ut ov rr,PA t it bt ut ov rr,Pu t it bt ut ov rr]
def yy :Code:=Code.seq (JH t it bt ut ov rr) (Code.seq (JG t it bt ut ov rr) (Code.seq (JF t it bt ut ov rr) Code.ret))
def yx :Code:=Code.seq (JC t it bt ut ov rr) (Code.seq (JB t it bt ut ov rr) (Code.seq (JA t it bt ut ov rr) Code.ret))
def X0 :Code:=Code.seq (Ss t it bt ut ov rr) (Code.seq (Sr t it bt ut ov rr) (Code.seq (Sq t it bt ut ov rr) Code.ret))
def X1 :Code:=UI (yz t it bt ut ov rr) (Code.seq (Code.seq (Px t it bt ut ov rr) (Code.cond (wB 31) (Code.seq (Pw t it bt ut ov rr) (yy t it bt ut ov rr)) Code.skip))
 (Code.seq (JE t it bt ut ov rr) (Code.seq (Code.seq (JD t it bt ut ov rr) (Code.cond (wB 68) (yx t it bt ut ov rr) Code.skip)) (X0 t it bt ut ov rr))))
end
section
variable (sh :Sh) (z:AV) (g sz:Nat)
def Sv :MC:=.seq (.reg (.op (some 15) (.mov (.t 7)) (.op (some 16) (.bin .eql (.t 15) (.c (.int .i64 0))) .nil))) (.cond (.t 16) (.seq (.reg (.op (some 17) (.mov (.t 0)) (.op (some 6) (.mov (.t 17)) .nil))) .ret) .skip)
def Su :MC:=.seq (.reg (.op (some 20) (.mov (.t 1)) (.op (some 21) (.mov (.t 8)) (.op (some 22) (.bin .eql (.t 20) (.t 21)) .nil))))
 (.cond (.t 22) (.seq (.reg (.op (some 23) (.mov (.t 0)) (.op (some 24) (.mov (.t 2)) (.op (some 25) (.append sh g (.t 23) (.t 24)) (.op (some 6) (.mov (.t 25)) .nil))))) .ret) .skip)
def tx :List MC:=[.reg (.op (some 6) (.mov (.c (.lst true .sc []))) .nil),
 .reg (.op (some 10) (.mov (.t 0)) (.op (some 11) (.mov (.t 1)) (.op (some 12) (.slSl sz (.t 10) (some (.t 11)) none none) .nil))),
 .reg (.op (some 13) (.mov (.t 2)) (.op (some 14) (.len false (.t 13)) (.op (some 7) (.mov (.t 14)) .nil))),Sv,
 .reg (.op (some 18) (.mov (.t 0)) (.op (some 19) (.len false (.t 18)) (.op (some 8) (.mov (.t 19)) .nil))),Su sh g]
def Sy :List MOp:=[.mov (.t 8),.mov (.t 7),.bin .add (.t 26) (.t 27),.mov (.t 0)]
def Sw :List MOp:=[.bin .gtr (.t 28) (.t 30)]
def Sx :List MOp:=[.mov (.t 0),.mov (.t 1),.slSl sz (.t 32) none (some (.t 33)) none,.mov (.t 8),.mov (.t 7),.bin .add (.t 35) (.t 36),.mov (.t 1),.bin .sub (.t 37) (.t 38)]
def X3 :List MOp:=[.mov (.t 40)]
def JL :MC:=.seq (.reg (.op (some 41) (.mov (.t 9)) (.op (some 42) (.mov (.t 1)) (.op (some 43) (.slSl sz (.t 41) (some (.t 42)) none none) (.op (some 44) (.mov (.t 2)) (.op (some 45) (.copy sh (.t 43) (.t 44)) .nil))))))
 (.seq (.draw [⟨(some 46),(.mov (.t 9)),none⟩,⟨(some 47),(.mov (.t 1)),none⟩,⟨(some 48),(.mov (.t 7)),none⟩,⟨(some 49),(.bin .add (.t 47) (.t 48)),none⟩,⟨(some 50),(.slSl sz (.t 46) (some (.t 49)) none none),none⟩,⟨(some 51),(.mov (.t 0)),none⟩,⟨(some 52),(.mov (.t 1)),none⟩,⟨(some 53),(.slSl sz (.t 51) (some (.t 52)) none none),none⟩,⟨(some 54),(.copy sh (.t 50) (.t 53)),none⟩] [])
 (.seq (.reg (.op (some 55) (.mov (.t 9)) (.op (some 6) (.mov (.t 55)) .nil))) .ret))
def JN :List MOp:=[.mov (.t 0),.mov (.t 8),.mov (.t 7),.bin .add (.t 57) (.t 58)]
def VF :List MOp:=[.mov (.t 60)]
def JM :List MOp:=[.mov (.t 2),.mov (.t 0),.mov (.t 1),.mov (.t 7),.bin .add (.t 63) (.t 64),.slSl sz (.t 62) (some (.t 65)) none none]
def VE :List MOp:=[.un .not (.t 67)]
def JK :MC:=.seq (.draw [⟨(some 69),(.mov (.t 0)),none⟩,⟨(some 70),(.mov (.t 1)),none⟩,⟨(some 71),(.mov (.t 7)),none⟩,⟨(some 72),(.bin .add (.t 70) (.t 71)),none⟩,⟨(some 73),(.slSl sz (.t 69) (some (.t 72)) none none),none⟩,⟨(some 74),(.mov (.t 0)),none⟩,⟨(some 75),(.mov (.t 1)),none⟩,⟨(some 76),(.slSl sz (.t 74) (some (.t 75)) none none),none⟩,⟨(some 77),(.copy sh (.t 73) (.t 76)),none⟩] [])
 (.seq (.reg (.op (some 78) (.mov (.t 0)) (.op (some 79) (.mov (.t 1)) (.op (some 80) (.slSl sz (.t 78) (some (.t 79)) none none) (.op (some 81) (.mov (.t 2)) (.op (some 82) (.copy sh (.t 80) (.t 81)) .nil))))))
 (.seq (.reg (.op (some 83) (.mov (.t 0)) (.op (some 6) (.mov (.t 83)) .nil))) .ret))
end
def imN :Im:=fun _=>false
structure InsOk (P:Program)(t it bt ut e:TypeId)(ov rr:Nat)(sh:Sh)(z:AV)(g sz:Nat):Prop where
 pre:bw (comp P ⟨[],[],[],[]⟩ 1000000) (yz t it bt ut ov rr)=some (tx sh g sz)
 o8:bw (aF P imN) (vW t it bt ut ov rr)=some Sy
 b8:bw (aF P imN) (qu t it bt ut ov rr)=some Sw
 o9:bw (aF P imN) (vV t it bt ut ov rr)=some (Sx sz)
 b9:bw (aF P imN) (vU t it bt ut ov rr)=some X3
 s10:comp P ⟨[],[],[],[]⟩ 1000000 (yy t it bt ut ov rr)=some (JL sh sz)
 o13:bw (aF P imN) (pK t it bt ut ov rr)=some JN
 b13:bw (aF P imN) (pI t it bt ut ov rr)=some VF
 o14:bw (aF P imN) (pJ t it bt ut ov rr)=some (JM sz)
 b14:bw (aF P imN) (pH t it bt ut ov rr)=some VE
 s15:comp P ⟨[],[],[],[]⟩ 1000000 (yx t it bt ut ov rr)=some (JK sh sz)
 ht:P.underlying t=some (.slice e)
 hit:P.underlying it=some (.int .i64)
 hz:dM P e=some (sh,z)
 hi:(P.info? e).map (fun i=>(i.bytes,i.size))=some (g,sz)
 hg:g<=1024
 hsz:sz=sh.size/\0<sz
 hsc:(match sh with| .sc=>false|_=>true)=true
 hov:∃fo,P.funcs[ov]? =some fo/\(fo.name== "runtime.NumGoroutine")=false/\fo.body.isNone=true/\Extern.findNext fo=none/\Extern.find fo=some (Extern.SlicesOverlaps.overlaps #[t,t] #[bt])
section
variable {gl :Gl} {cl:Cl} {sh:Sh} {z:AV} {g sz:Nat} {els:List AV} {x:AV} {i:Nat}
def inH (sh:Sh)(els:List AV)(x:AV):Hp:=[(100000,.grow sh els),(100001,.grow sh [x])]
def JJ (sh:Sh)(els:List AV)(x:AV)(i:Nat):St:={fr:=kr 0 [.sl 100000 [] 0 els.length,.int .i64 i,.sl 100001 [] 0 1],hp:=inH sh els x}
def jQ (sh:Sh)(els:List AV)(x:AV)(i:Nat):St :=
 {fr:=[.set 0 (.sl 100000 [] 0 els.length),.set 1 (.int .i64 i),.set 2 (.sl 100001 [] 0 1),.set 7 (.int .i64 1),.set 8 (.int .i64 els.length)],hp:=inH sh els x}
theorem wI {a:Int}(h0:0<=a)(h:a<=2^40):IntKind.wrap .i64 a=a:=by simp[IntKind.wrap,IntKind.bits,IntKind.signed];omega
theorem Cs (hsz:sz=sh.size)(hi:i<els.length)(hl:els.length+1<=LIM) :
  ∃st',qB gl cl (tx sh g sz) (JJ sh els x i)=some (.norm,st')/\{fr:=df st'.fr [0,1,2,7,8],hp:=st'.hp:St}=jQ sh els x i:=by
 have h1:i<=els.length:=Nat.le_of_lt hi;have h2:((i:Int)==(els.length:Int))=false:=by simp;omega
 subst hsz;have h3:((1:Int)==0)=false:=rfl;simp[tx,Sv,Su,JJ,jQ,inH,kr,qB,evC,bA,af,Opd.val,Fr.get,St.upd,Fr.upd,Hp.get,Sh.sub,eX,h1,h2,h3,fQ,aM,df]
theorem Ct (hsz:sz=sh.size)(hg:g<=1024)(hl:els.length+1<=LIM) :
  ∃st',qB gl cl (tx sh g sz) (JJ sh els x els.length)=some (.ret,st')/\{fr:=df st'.fr [6],hp:=st'.hp:St}={fr:=[.set 6 (.sl 25 [] 0 (els.length+1))],hp:=(100000,.dead)::(25,.grow sh (els++[x]))::inH sh els x}:=by
 subst hsz;have h3:((1:Int)==0)=false:=rfl;simp[tx,Sv,Su,JJ,jQ,inH,kr,qB,evC,bA,af,Opd.val,Fr.get,St.upd,Fr.upd,Hp.get,Sh.sub,eX,h3,fQ,aM,df,bn,sub,Sh.beq_refl,hg,hl]
section
variable {t it bt ut:TypeId} {ov rr:Nat}
theorem Sl (hl:els.length+1<=LIM):∃st',bA gl cl (iO (((vW t it bt ut ov rr).zip Sy).map fun q=>(q.1.dst,q.2))) (jQ sh els x i)=some st' /\
  {fr:=df st'.fr [0,1,2,7,8,28,29],hp:=st'.hp:St}={fr:=(jQ sh els x i).fr++[.set 28 (.int .i64 ((els.length:Int)+1)),.set 29 (.sl 100000 [] 0 els.length)],hp:=inH sh els x}:=by
 have h1:IntKind.wrap .i64 ((els.length:Int)+1)=(els.length:Int)+1:=wI (by omega) (by simp only[LIM]at hl;omega);simp[vW,Sy,iO,bA,af,Opd.val,Fr.get,St.upd,Fr.upd,fQ,aM,jQ,df,h1]
theorem Sk (hi:i<els.length)(hsz:sz=sh.size)(hl:els.length+1<=LIM):∃st',bA gl cl (iO (((vV t it bt ut ov rr).zip (Sx sz)).map fun q=>(q.1.dst,q.2))) (jQ sh els x i)=some st' /\
  {fr:=df st'.fr [0,1,2,7,34,39],hp:=st'.hp:St} =
   {fr:=[.set 0 (.sl 100000 [] 0 els.length),.set 1 (.int .i64 i),.set 2 (.sl 100001 [] 0 1),.set 7 (.int .i64 1),.set 34 (.sl 100000 [] 0 i),.set 39 (.int .i64 ((els.length+1-i:Nat):Int))],hp:=inH sh els x}:=by
 have h1:IntKind.wrap .i64 ((els.length:Int)+1)=(els.length:Int)+1:=wI (by omega) (by simp only[LIM]at hl;omega);have h2:IntKind.wrap .i64 ((els.length:Int)+1-i)=((els.length+1-i:Nat):Int):=by rw[wI (by omega) (by simp only[LIM]at hl;omega)];omega
 have h3:i<=els.length:=by omega
 subst hsz;simp[vV,Sx,iO,bA,af,Opd.val,Fr.get,St.upd,Fr.upd,fQ,aM,jQ,inH,Hp.get,eX,df,h1,h2,h3]
theorem NU (hl:els.length+1<=LIM):∃st',bA gl cl (iO (((pK t it bt ut ov rr).zip JN).map fun q=>(q.1.dst,q.2))) (jQ sh els x i)=some st' /\
  {fr:=df st'.fr [1,2,7,56,59],hp:=st'.hp:St} =
   {fr:=[.set 1 (.int .i64 i),.set 2 (.sl 100001 [] 0 1),.set 7 (.int .i64 1),.set 56 (.sl 100000 [] 0 els.length),.set 59 (.int .i64 ((els.length:Int)+1))],hp:=inH sh els x}:=by
 have h1:IntKind.wrap .i64 ((els.length:Int)+1)=(els.length:Int)+1:=wI (by omega) (by simp only[LIM]at hl;omega);simp[pK,JN,iO,bA,af,Opd.val,Fr.get,St.upd,Fr.upd,fQ,aM,jQ,df,h1]
def qv (sh:Sh)(els:List AV)(x:AV)(i:Nat):St :=
 {fr:=[.set 0 (.sl 100000 [] 0 (els.length+1)),.set 1 (.int .i64 i),.set 2 (.sl 100001 [] 0 1),.set 7 (.int .i64 1)],hp:=inH sh els x}
theorem NT (hi:i<els.length)(hsz:sz=sh.size)(hl:els.length+1<=LIM):∃st',bA gl cl (iO (((pJ t it bt ut ov rr).zip (JM sz)).map fun q=>(q.1.dst,q.2))) (qv sh els x i)=some st' /\
  {fr:=df st'.fr [0,1,2,7,61,66],hp:=st'.hp:St}={fr:=(qv sh els x i).fr++[.set 61 (.sl 100001 [] 0 1),.set 66 (.sl 100000 [] (i+1) (els.length-i))],hp:=inH sh els x}:=by
 have h1:IntKind.wrap .i64 ((i:Int)+1)=((i+1:Nat):Int):=by rw[wI (by omega) (by simp only[LIM]at hl;omega)];rfl
 have h3:i+1<=els.length+1:=by omega
 have h4:((i:Int)+1)<=((els.length:Int)+1):=by omega
 have h5:((i:Int)+1).toNat=i+1:=by omega
 have h6:els.length+1-(i+1)=els.length-i:=by omega
 have h7:0<=(i:Int)+1:=by omega
 subst hsz;simp[pJ,JM,iO,bA,af,Opd.val,Fr.get,St.upd,Fr.upd,fQ,aM,qv,inH,Hp.get,eX,df,h1,h3,h4,h5,h6,h7]
def kZ (els:List AV)(i:Nat)(x:AV):List AV:=els.take i++x::els.drop i
theorem Sn (hi:i<els.length)(hsz:sz=sh.size)(hl:els.length+1<=LIM):∃st',evC gl cl (JK sh sz) (qv sh els x i)=some (.ret,st')/\df st'.fr [6]=[.set 6 (.sl 100000 [] 0 (els.length+1))] /\
  ∀k,st'.hp.get k=Hp.get ((100000,.grow sh (kZ els i x))::[(100001,.grow sh [x])]) k:=by
 have h1:IntKind.wrap .i64 ((i:Int)+1)=((i+1:Nat):Int):=by rw[wI (by omega) (by simp only[LIM]at hl;omega)];rfl
 have h4:((i:Int)+1)<=((els.length:Int)+1):=by omega
 have h5:((i:Int)+1).toNat=i+1:=by omega
 have h6:els.length+1-(i+1)=els.length-i:=by omega
 have h7:0<=(i:Int)+1:=by omega
 have h8:¬(i+(els.length+1-i)<=els.length):=by omega
 have h9:min (els.length+1-i) (els.length-i)=els.length-i:=by omega
 have h10:i+1<=els.length:=by omega
 have h11:els.length<=i+1+(els.length-i):=by omega
 have h12:i+(els.length-i)<=els.length:=by omega
 have h13:0<els.length-i:=by omega
 have h14:(i:Int)<=(els.length:Int)+1:=by omega
 have h15:i+(els.length+1-i)<=min (i+1) els.length+min (els.length-i) (els.length-i):=by omega
 have h16:min 1 (els.length+1-i)=1:=by omega
 subst hsz;have h17:i<=els.length+1:=by omega
 have h18:¬(els.length+1<=els.length):=by omega
 have h19:i+(els.length-i)=els.length:=by omega
 have h20:i+(els.length+1-i)=els.length+1:=by omega
 have h21:min (i+1) els.length=i+1:=by omega
 have h22:els.length+1<=i+1+(els.length-i):=by omega
 simp[JK,yM,BQ,pT,yO,yN,lq,nk,lB,mW,bA,af,Opd.val,Fr.get,St.upd,Fr.upd,fQ,aM,qv,inH,Hp.get,eX,h1,h4,h5,h6,h7,bn,h8,gr,h9,Sh.beq_refl,h10,h11,h12,h13,h14,Sh.sub,sub,h15,h16,h17,h18,h19,h20,h21,h22,df];intro k;have e':List.take i (List.take (i+1) els++List.take (els.length-i) (List.drop i els))++x::List.take (els.length-i) (List.drop i els)=kZ els i x:=by
  have e1:List.take (els.length-i) (List.drop i els)=List.drop i els:=wZ (by simp);have hl2:(List.take (i+1) els).length=i+1:=by rw[wS];omega
  rw[e1,wU (by omega),wO];simp[kZ,Nat.min_eq_left]
 rw[e'];by_cases hk:100000=k
 . simp[hk]
 . simp[hk]
def JI (sh:Sh)(z:AV)(els:List AV)(x:AV)(i:Nat):St :=
 {fr:=[.set 0 (.sl 100000 [] 0 els.length),.set 1 (.int .i64 i),.set 2 (.sl 100001 [] 0 1),.set 7 (.int .i64 1),.set 9 (.sl 40 [] 0 (els.length+1))],hp:=(40,.grow sh (els.take i++List.replicate (els.length+1-i) z))::inH sh els x}
theorem So (hi:i<els.length)(hsz:sz=sh.size)(hl:els.length+1<=LIM):∃st',evC gl cl (JL sh sz) (JI sh z els x i)=some (.ret,st')/\df st'.fr [6]=[.set 6 (.sl 40 [] 0 (els.length+1))] /\
  ∀k,st'.hp.get k=Hp.get ((40,.grow sh (kZ els i x))::inH sh els x) k:=by
 have h1:IntKind.wrap .i64 ((i:Int)+1)=((i+1:Nat):Int):=by rw[wI (by omega) (by simp only[LIM]at hl;omega)];rfl
 have h2:(i:Int)<=(els.length:Int)+1:=by omega
 have h3:((i:Int)+1)<=((els.length:Int)+1):=by omega
 have h4:i<=els.length:=by omega
 have h5:((i:Int)+1).toNat=i+1:=by omega
 have h6:els.length+1-(i+1)=els.length-i:=by omega
 have h7:0<=(i:Int)+1:=by omega
 have h8:i+(els.length+1-i)=els.length+1:=by omega
 have h9:min i els.length=i:=by omega
 have h10:i+(els.length-i)=els.length:=by omega
 have h11:min 1 (els.length+1-i)=1:=by omega
 have h12:i<=els.length+1:=by omega
 have h13:i+1+(els.length-i)=els.length+1:=by omega
 have h14:els.length+1-i-1=els.length-i:=by omega
 have h15:i+(1+(els.length-i))=els.length+1:=by omega
 have h16:i+(els.length-i+1)=els.length+1:=by omega
 have h17:(List.take i els).length=i:=by rw[wS];omega
 have h18:List.take i (List.take i els++List.replicate (els.length+1-i) z)=List.take i els:=by rw[wU (by omega),wO,wj]
 subst hsz;simp[JL,yM,BQ,pT,yO,yN,lq,nk,lB,mW,bA,af,Opd.val,Fr.get,St.upd,Fr.upd,fQ,aM,JI,inH,Hp.get,eX,h1,h2,h3,h4,h5,h6,h7,h8,h9,h10,bn,Sh.beq_refl,h11,h12,Sh.sub,sub,h13,h14,h15,h16,h18,df];intro k;have e1:∀(D:List AV),List.take (i+1) (List.take i els++x::D)=List.take i els++[x]:=fun D=>by rw[List.take_append,h17,wO,show i+1-i=1 by omega,Nat.min_eq_right (by omega)];simp
 have e2:List.take (els.length-i) (List.take (els.length-i) (List.drop i els))=List.drop i els:=by rw[wO,wj];exact wZ (by simp)
 have e3:List.drop (els.length+1) (List.take i els++x::List.drop (i+1) (List.take i els++List.replicate (els.length+1-i) z))=[]:=by apply List.drop_of_length_le;simp[h9];omega
 by_cases hk:40=k
 . simp[hk,e1,e2,e3,kZ]
 . simp[hk]
end
end
section
variable {P :Program} {F:Fence} {n:Nat} {gl:Gl} {cl:Cl} {L:Prop} {H:aT} {G:Gh}
theorem s6 {hp hp':Hp}(h:∀k,hp'.get k=hp.get k){b:Nat}:bG G hp' b↔bG G hp b:=by simp only[bG,aN,h]
theorem Em {hp hp':Hp}(inv:Inv H G hp)(h:∀k,hp'.get k=hp.get k):Inv H G hp' :=
 ⟨fun k o hk=>inv.obs k o (by rw[<-h];exact hk),fun k hk=>inv.out k (by rw[<-h];exact hk),
  fun k k' b r r' h1 h2 h3 h4=>inv.dist k k' b r r' h1 h2 (by simpa only[aN,h]using h3) (by simpa only[aN,h]using h4),
  fun b hb=>⟨(inv.imm b hb).1,fun hl=>(inv.imm b hb).2 ((s6 h).1 hl)⟩,fun b hb=>inv.lt b ((s6 h).1 hb)⟩
theorem OC {a a1:Act}{w w1:World}{G1:Gh}{hp hp':Hp}{st:St}(hc:Came L gl a w G hp a1 w1 G1 st)(h:∀k,hp'.get k=st.hp.get k):Came L gl a w G hp a1 w1 G1 {fr:=st.fr,hp:=hp'} :=
 ⟨hc.kept,⟨Em hc.move.inv h,hc.move.size,hc.move.imm,hc.move.yl,hc.move.same,fun b hb=>hc.move.live b ((s6 h).1 hb),hc.move.immNew⟩,⟨Em hc.ok.inv h,hc.ok.fr⟩,hc.size,hc.defers,hc.hand,.nil⟩
def l6 (sh:Sh)(_:Cl)(as:List AV)(imps:Hp):Option (AV×Hp×List OB) :=
 match as,imps with
 | [.sl k [] 0 m,.int .i64 i,.sl k2 [] 0 1],[(q1,.grow sh1 els),(q2,.grow sh2 [x])] =>
   if k==100000&&k2==100001&&q1==100000&&q2==100001&&Sh.beq sh sh1&&Sh.beq sh sh2&&decide (m=els.length/\0<=i/\i<=m/\m+1<=LIM)then
    some (.sl 20000 [] 0 (m+1),[(100000,.dead),(100001,.grow sh [x])],[.grow sh (kZ els i.toNat x)])
   else none
 | _,_=>none
theorem yw {fn:Func}(hres:bw (fM P) fn.results.toList=some [.tmp 6]){sh:Sh}{els l:List AV}{x:AV}{K m:Nat}(hK:K=25\/K=40\/K=200){a a':Act}{w w':World}{G':Gh}{st':St}
  (hc:Came True gl a w G (inH sh els x) a' w' G' st') (hfr:df st'.fr [6]=[.set 6 (.sl K [] 0 m)]) (hhp:∀k,st'.hp.get k=Hp.get [(100000,.dead),(100001,.grow sh [x]),(K,.grow sh l)] k) :
  ∃v,(results fn a'.tmps).run P w'= .ok v w'/\∃v1 G1,Ending.returned v= .returned v1/\Kept w w'/\Move w.heap G (inH sh els x) w'.heap G1 ([(100000,.dead),(100001,.grow sh [x])]++cm 0 [.grow sh l]) /\
   (inH sh els x≠[]->∀q,SHK<=q->∀r,G1.reg q=some r->∃r0,G.reg q=some r0/\r0.le r)/\RepT w'.heap G1 v1 (.sl 20000 [] 0 m):=by
 have h1:=OC (cI [6] hc) (hp':=[(100000,.dead),(100001,.grow sh [x]),(K,.grow sh l)]) (fun k=>(hhp k).symm);rw[hfr]at h1;refine N1 hres h1 (rs:=[.sl K [] 0 m]) rfl (E:=[K]) (z:=([.sl 20000 [] 0 m],[(100000,.dead),(100001,.grow sh [x])],[.grow sh l])) ?_ rfl;rcases hK with rfl|rfl|rfl<;>simp[fO,inH,eT,dT,Hp.get,er,bO,AV.refss,AV.refs,dR,AV.knowns,AV.known,SHK,rAs,rA,nm,idx,fK,jT,rOB]
theorem En (t it bt ut:TypeId)(ov rr:Nat):(yz t it bt ut ov rr).all (de 95)=true:=by simp[yz,Pv,Pu,PH,PG,PE,PD,PC,PA,Pz,Py,de]
theorem FV (t it bt ut:TypeId)(ov rr:Nat):de 95 (yy t it bt ut ov rr)=true:=by simp[yy,JH,JG,JF,de]
theorem FU (t it bt ut:TypeId)(ov rr:Nat):de 95 (yx t it bt ut ov rr)=true:=by simp[yx,JC,JB,JA,de]
theorem qC {l:List Oper}(h:(l.all fun o=>match o.dst with|some d=>decide (d<95)|none=>true)=true){m:Nat}(hm:95<=m):∀o∈l,∀d,o.dst=some d->d<m:=fun o ho d hd=>by have:=wK.1 h o ho;rw[hd]at this;exact wd (of_decide_eq_true this) hm
theorem MW {a:Act}{w:World}{t e it bt ut:TypeId}{ov rr m c:Nat}{b:Option Addr}(ht:P.underlying t=some (.slice e))(h:a.eval (.tmp 29)= .slice b m c) :
  (execOp a.eval (Ep t it bt ut ov rr)).run P w= .ok (.value (.int .i64 c)) w:=by
 simp only[Ep,execOp,resolve,invoke,builtin,Builtin.cap_,wp,wo,wr,wR,wM,wQ,h,w0,wY,aC ht];rfl
theorem MV {a:Act}{w:World}{t e it bt ut:TypeId}{ov rr m c k o:Nat}{info:TypeInfo}(ht:P.underlying t=some (.slice e))(hi:P.info? e=some info)(h:a.eval (.tmp 56)= .slice (some ⟨k,o,none⟩) m c)
  (h2:a.eval (.tmp 59)= .int .i64 ((m:Int)+1)) (hle:m+1<=c) :
  (execOp a.eval (yB t it bt ut ov rr)).run P w= .ok (.value (.slice (some ⟨k,o,none⟩) (m+1) c)) w:=by
 have hb:(Instr.sliceBounds true m c none (some (.int .i64 ((m:Int)+1))) none).run P w= .ok (0,m+1,c) w:=by simp only[Instr.sliceBounds,wp,wo,wr];rw[cu (by omega) (by omega)];rfl
 have hs:=fg (lo:=none) (hi:=some (.int .i64 ((m:Int)+1))) (mx:=none) (b:=some ⟨k,o,none⟩) ht (show(P.info? e).map (·.size)=some info.size by rw[hi];rfl) hb;have hc:¬(c=0):=by omega
 simp only[hc,if_false,wJ,wh,cY,wi,wg]at hs;simp only[yB,execOp,Option.map_none,wJ,h,h2,wp,hs,wr,wo]
theorem HM {a:Act}{w:World}{t e it bt ut:TypeId}{ov rr:Nat}{b1 b2:Addr}{l1 c1 l2 c2:Nat}{ca cb:Array Value}{ea eb:TypeId}{fa fb:Nat×Nat}{info:TypeInfo}(ht:P.underlying t=some (.slice e))(hi:P.info? e=some info)
  (hov:∃fo,P.funcs[ov]? =some fo/\(fo.name== "runtime.NumGoroutine")=false/\fo.body.isNone=true/\Extern.findNext fo=none/\Extern.find fo=some (Extern.SlicesOverlaps.overlaps #[t,t] #[bt]))
  (h1:a.eval (.tmp 61)= .slice (some b1) l1 c1) (h2:a.eval (.tmp 66)= .slice (some b2) l2 c2) (hne:b1.block≠b2.block) (ha:w.heap[b1.block]? =some (.cells ca ea fa)) (hb:w.heap[b2.block]? =some (.cells cb eb fb))
  (hfa:fa.1=fa.2) (hcb:cb.size≠0):(execOp a.eval (yA t it bt ut ov rr)).run P w= .ok (.value (.bool false)) w:=by
 obtain⟨fo,hfo,hnm,hbd,hfn,hfd⟩:=hov;have hz:∀w,(Go.sizeOf e).run P w= .ok info.size w:=fun w=>br (by rw[hi];rfl)
 have hfz:∀o,w.frozen? ⟨b1.block,o,none⟩=false:=fun o=>by simp only[World.frozen?,ha,hfa,wm,decide_eq_false_iff_not];omega
 have hfz1:w.frozen? b1=false:=by simp only[World.frozen?,ha,hfa,wm,decide_eq_false_iff_not];omega
 have hr:=Lib.run_overlaps_apart (P:=P) w t bt e ht info.size hz b1 b2 l1 c1 l2 c2 hne ea eb ca.size cb.size (by simp[World.shape?,ha]) (by simp[World.shape?,hb]) hcb hfz1 (hfz _);have hcf:(callFunc ov #[.slice (some b1) l1 c1,.slice (some b2) l2 c2]).run P w= .ok (.value (.bool false)) w:=by rw[run_callFunc_extern hfo hnm hbd hfn hfd,hr];rfl
 have hef:a.eval (wD ov)= .func (.func ov) #[] #[]:=rfl;simp only[yA,execOp,resolve,hef,Deferred.ofValue,wp,wo,wr,wR,wM,wQ,h1,h2,invoke,Array.empty_append,Array.append_empty,hcf]
theorem InsOk.ne {t it bt ut e:TypeId}{ov rr:Nat}{sh:Sh}{z:AV}{g sz:Nat}(ok:InsOk P t it bt ut e ov rr sh z g sz):sh≠.sc:=by rintro rfl;exact absurd ok.hsc (by simp)
theorem kQ {a a1:Act}{w w1:World}{G1:Gh}{hp:Hp}{st:St}(hc:Came True gl a w G hp a1 w1 G1 st){q b:Nat}{s:Sh}{r:Rg}(hq:SHK<=q)(h:G1.reg q=some r)(h0:G.reg q=some (.blk b s)):r= .blk b s:=by obtain⟨r0,h1,h2⟩:=hc.hand trivial q hq r h;rw[h0]at h1;cases h1;exact h2
theorem Ah {a a1:Act}{w w1:World}{G1:Gh}{hp:Hp}{st:St}(hc:Came True gl a w G hp a1 w1 G1 st){q b:Nat}{s:Sh}(hq:SHK<=q)(h:G1.reg q=some (.blk b s)):G.reg q=some (.blk b s):=by
 obtain⟨r0,h1,h2⟩:=hc.hand trivial q hq _ h
 cases r0 with
 | nil=>cases h2
 | blk b' s'=>cases h2;exact h1
 | env X=>obtain⟨_,h2⟩:=h2;cases h2
 | nst _ _ X=>obtain⟨_,h2⟩:=h2;cases h2
theorem Rv {a:Act}{w w':World}{t it bt ut:TypeId}{ov rr:Nat}{v1 v2 r:Value}(h1:a.eval (.tmp 34)=v1)(h2:a.eval (.tmp 39)=v2)(h:(Builtin.append_ #[t,it] t #[v1,v2]).run P w= .ok r w') :
  (execOp a.eval (Eo t it bt ut ov rr)).run P w= .ok (.value r) w':=by
 simp only[Eo,execOp,resolve,invoke,builtin,wp,wo,wr,wR,wM,wQ,h1,h2,h]
theorem vT {f:Nat}{fn:Func}{t it bt ut e:TypeId}{ov rr:Nat}{sh:Sh}{z:AV}{g sz:Nat}(hmix:P.follows .mixedOrders=true)(hfn:P.funcs[f]? =some fn)(hname:(fn.name== "runtime.NumGoroutine")=false)
  (hbody:fn.body=some (X1 t it bt ut ov rr)) (hres:bw (fM P) fn.results.toList=some [.tmp 6]) (hn:95<=fn.ntmps) (ok:InsOk P t it bt ut e ov rr sh z g sz):LX P f (l6 sh):=by
 intro gl cl hcall f' as imps r os es h;have hF:∀f,Fence.wide.fn f:=fun _=>trivial
 simp only[wF]at h;obtain⟨rfl,h⟩:=h;unfold l6 at h;split at h
 case h_2=>cases h
 rename_i k m i k2 q1 sh1 els q2 sh2 x;rw[wF]at h;obtain⟨hc0,h⟩:=h;cases h;simp only[wk,beq_iff_eq,decide_eq_true_eq]at hc0;obtain⟨⟨⟨⟨⟨⟨rfl,rfl⟩,rfl⟩,rfl⟩,hb1⟩,hb2⟩,rfl,hi0,him,hlim⟩:=hc0;obtain rfl:=Sh.beq_eq hb1;obtain rfl:=Sh.beq_eq hb2;obtain⟨j,rfl⟩:∃j:Nat,i=(j:Int):=⟨i.toNat,by omega⟩;have hj:j<=els.length:=by omega
 rw[Int.toNat_natCast];obtain⟨hszE,hszP⟩:=ok.hsz;obtain⟨info,hinfo,hginfo⟩:∃info,P.info? e=some info/\(info.bytes,info.size)=(g,sz):=by have:=ok.hi;rw[wH]at this;exact this
 obtain⟨rfl,rfl⟩:=Prod.mk.inj hginfo;refine⟨⟨fn,hfn,hname,by simp[hbody]⟩,fun n w vs G inv hg hlen hrep=> ?_⟩;have S:Setting P Fence.wide n gl cl:=⟨hmix,gu hF rfl hcall n,fy (gu (fun _=>trivial) rfl hcall n),hF⟩;have hst:StOk w.heap G (JJ sh els x j) (vs++Array.replicate (fn.ntmps-vs.size) undef):=Bc inv hlen hrep;have hN:95<=(vs++Array.replicate (fn.ntmps-vs.size) undef).size:=by simp;omega
 refine callsIn_of_wp hfn hbody (hF _) ?_ rfl;by_cases hjn:j=els.length
 ·
  subst hjn;obtain⟨st1,hev,hst1⟩:=Ct (gl:=gl) (cl:=cl) (sh:=sh) (els:=els) (x:=x) hszE ok.hg hlim;refine xJ (L:=True) S _ _ ok.pre rfl (fun _=>by rfl) (by
   rw[wK];intro c hc;exact cU hN c (wK.1 (En t it bt ut ov rr) c hc)) _ w G _ st1 .ret hg hst rfl hev _ _ fun a' w' G' hc=> ?_
  obtain⟨hfr,hhp⟩:=St.mk.inj hst1;refine⟨hc.defers,?_⟩;refine yw (K:=25) (l:=kZ els els.length x) hres (.inl rfl) hc hfr fun k=> ?_
  rw[hhp];simp only[Hp.get,inH,kZ];by_cases h1:100000=k
  . subst h1;simp
  . by_cases h2:25=k
    . subst h2;simp
    . by_cases h3:100001=k
      . subst h3;simp
      . simp[h1,h2,h3]
 . have hjl:j<els.length:=by omega
   obtain⟨st1,hev,hst1⟩:=Cs (gl:=gl) (cl:=cl) (sh:=sh) (els:=els) (x:=x) (g:=info.bytes) hszE hjl hlim;refine xJ (L:=True) S _ _ ok.pre rfl (fun _=>by rfl) (by
    rw[wK];intro c hc;exact cU hN c (wK.1 (En t it bt ut ov rr) c hc)) _ w G _ st1 .norm hg hst rfl hev _ _ fun a1 w1 G1 hc1=> ?_
   obtain⟨hfr1,hhp1⟩:=St.mk.inj hst1;have hc2:Came True gl {tmps:=vs++Array.replicate (fn.ntmps-vs.size) undef,defers:=[]} w G (inH sh els x) a1 w1 G1 (jQ sh els x j):=by have:=cI [0,1,2,7,8] hc1;rw[hst1]at this;exact this
   clear hc1 hst1 hfr1 hhp1 hev;have hsize:a1.tmps.size=(vs++Array.replicate (fn.ntmps-vs.size) undef).size:=hc2.size;refine wpIn_seq (wpIn_seq ?_);obtain⟨st8,hev8,hst8⟩:=Sl (gl:=gl) (cl:=cl) (sh:=sh) (els:=els) (x:=x) (i:=j) (t:=t) (it:=it) (bt:=bt) (ut:=ut) (ov:=ov) (rr:=rr) hlim;unfold Px;refine wpIn_region_lit (jJ (L:=True) S.op _ _ ok.o8 (by simp[vW]) a1 w1 G1 _ st8 (qC (by simp[vW]) (hsize▸hN)) (fun _=>by rfl) (hg.moved hc2.move) hc2.ok hev8 _ fun a3 w3 G3 hc3=> ?_);have hc3:Came True gl {tmps:=vs++Array.replicate (fn.ntmps-vs.size) undef,defers:=[]} w G (inH sh els x) a3 w3 G3 {fr:=(jQ sh els x j).fr++[.set 28 (.int .i64 ((els.length:Int)+1)),.set 29 (.sl 100000 [] 0 els.length)],hp:=inH sh els x}:=by have:=cI [0,1,2,7,8,28,29] (hc2.trans hc3);rw[hst8]at this;exact this
   have hs3:95<=a3.tmps.size:=by rw[hc3.size];exact hN
   have hv29:=hc3.ok.fr 29;simp only[jQ,wT,wW,Fr.get]at hv29;simp only[Nat.reduceEqDiff,if_false,if_true]at hv29;rw[aq rfl]at hv29;rcases hc3.ok.inv.obs 100000 (.grow sh els) rfl with ⟨h0,_⟩|⟨b,cap,c,e',fz,hr,hcl,hb,hcs,hf,hsh,hrc⟩
   . subst h0;simp at hjl
   rcases bF hv29 with ⟨_,_,_,_,_,hreg⟩|⟨b',root,mm,e2,o',xo,hr',hs2,hof,hle2,hev29,hxo⟩
   . rw[hreg]at hr;cases hr
   rw[hr']at hr;simp only[wE,Rg.blk.injEq]at hr;obtain⟨rfl,rfl⟩:=hr;simp only[Sh.sub,wE,Sh.ar.injEq]at hs2;obtain⟨rfl,rfl⟩:=hs2;simp only[Sh.off,wE]at hof;subst hof;rw[wg]at hev29;have hx0:=hxo (by omega);simp only[wh,wi]at hx0;subst hx0;refine xA hF rfl (fun c h=>by cases h) (MW ok.ht (by simpa[Act.eval]using hev29)) ?_;have hc4:=lH hc3 (d:=30) (v:=.int .i64 cap) (v':=.int .i64 cap) (by omega) (ba _ _);have hc4:Came True gl {tmps:=vs++Array.replicate (fn.ntmps-vs.size) undef,defers:=[]} w G (inH sh els x) (a3.put (some 30) (.int .i64 cap)) w3 G3 {fr:=(jQ sh els x j).fr++[.set 28 (.int .i64 ((els.length:Int)+1)),.set 30 (.int .i64 cap)],hp:=inH sh els x} :=
    cI [0,1,2,7,8,28,30] hc4
   have e30:(Ep t it bt ut ov rr).dst=some 30:=rfl;rw[e30];generalize a3.put (some 30) (.int .i64 cap)=a4 at hc4;have hs4:95<=a4.tmps.size:=by rw[hc4.size];exact hN
   have hg4:=hg.moved hc4.move;have hev31:bA gl cl (iO (((qu t it bt ut ov rr).zip Sw).map fun q=>(q.1.dst,q.2))) {fr:=(jQ sh els x j).fr++[.set 28 (.int .i64 ((els.length:Int)+1)),.set 30 (.int .i64 cap)],hp:=inH sh els x} =
     some {fr:=.set 31 (.bool (decide ((cap:Int)<(els.length:Int)+1)))::((jQ sh els x j).fr++[.set 28 (.int .i64 ((els.length:Int)+1)),.set 30 (.int .i64 cap)]),hp:=inH sh els x}:=by
    simp[qu,Sw,iO,bA,af,Opd.val,Fr.get,St.upd,Fr.upd,fQ,aM,jQ]
   rw[show qu t it bt ut ov rr=qu t it bt ut ov rr++[]from(wN _).symm];refine jJ (L:=True) S.op _ _ ok.b8 (by simp[qu]) a4 w3 G3 _ _ (qC (by simp[qu]) hs4) (fun _=>by rfl) hg4 hc4.ok hev31 _ fun a5 w5 G5 hc5=> ?_
   have hc5:Came True gl {tmps:=vs++Array.replicate (fn.ntmps-vs.size) undef,defers:=[]} w G (inH sh els x) a5 w5 G5 {fr:=.set 31 (.bool (decide ((cap:Int)<(els.length:Int)+1)))::(jQ sh els x j).fr,hp:=inH sh els x} :=
    cI [31,0,1,2,7,8] (hc4.trans hc5)
   refine wpListIn_nil ?_;have hx5:a5.eval (wB 31)= .bool (decide ((cap:Int)<(els.length:Int)+1)):=by have:=hc5.ok.fr 31;exact cA this
   have hc6:Came True gl {tmps:=vs++Array.replicate (fn.ntmps-vs.size) undef,defers:=[]} w G (inH sh els x) a5 w5 G5 (jQ sh els x j):=cI [0,1,2,7,8] hc5;have hs6:95<=a5.tmps.size:=by rw[hc6.size];exact hN
   have hg6:=hg.moved hc6.move;refine wpIn_cond hx5 ?_;by_cases hroom:(cap:Int)<(els.length:Int)+1
   ·
    rw[if_pos (by simp[hroom])];have hreg0:=Ah hc3 (we _) hr';refine wpIn_seq ?_;obtain⟨st9,hev9,hst9⟩:=Sk (gl:=gl) (cl:=cl) (sh:=sh) (els:=els) (x:=x) (i:=j) (t:=t) (it:=it) (bt:=bt) (ut:=ut) (ov:=ov) (rr:=rr) hjl hszE hlim;unfold Pw;refine wpIn_region_lit (jJ (L:=True) S.op _ _ ok.o9 (by simp[vV]) a5 w5 G5 _ st9 (qC (by simp[vV]) hs6) (fun _=>by rfl) hg6 hc6.ok hev9 _ fun a7 w7 G7 hc7=> ?_);have hc7:Came True gl {tmps:=vs++Array.replicate (fn.ntmps-vs.size) undef,defers:=[]} w G (inH sh els x) a7 w7 G7
      {fr:=[.set 0 (.sl 100000 [] 0 els.length),.set 1 (.int .i64 j),.set 2 (.sl 100001 [] 0 1),.set 7 (.int .i64 1),.set 34 (.sl 100000 [] 0 j),.set 39 (.int .i64 ((els.length+1-j:Nat):Int))],hp:=inH sh els x}:=by
     have:=cI [0,1,2,7,34,39] (hc6.trans hc7);rw[hst9]at this;exact this
    have hs7:95<=a7.tmps.size:=by rw[hc7.size];exact hN
    have hv34:RepT w7.heap G7 (a7.tmps.getD 34 undef) (.sl 100000 [] 0 j):=hc7.ok.fr 34;have hv39:RepT w7.heap G7 (a7.tmps.getD 39 undef) (.int .i64 ((els.length+1-j:Nat):Int)):=hc7.ok.fr 39;rw[aq rfl]at hv34;have hv39:=aU hv39;obtain⟨b7,cap7,hev34,hcap7⟩:∃b7 cap7,a7.tmps.getD 34 undef= .slice b7 j cap7/\cap7=cap:=by
     rcases bF hv34 (hc7.ok.inv.noN (k:=100000) rfl trivial)with ⟨_,_,_,_,_,hreg⟩|⟨b7,root7,m7,e7,o7,x7,hr7,hs7',ho7,hle7,he7,_⟩
     . have:=kQ hc7 (we _) hreg hreg0;cases this
     . have:=kQ hc7 (we _) hr7 hreg0;cases this;simp only[Sh.sub,wE,Sh.ar.injEq]at hs7';obtain⟨rfl,rfl⟩:=hs7';exact⟨_,_,he7,wg _⟩
    subst hcap7;have htl:(els.take j).length=j:=by rw[wS];omega
    have hsrc:=jc (P:=P) hc7.ok.inv hv34 (show bn (inH sh els x) (.sl 100000 [] 0 j)=some (sh,els.take j) by simp[bn,inH,Hp.get,sub,hj]);rw[hev34]at hsrc;obtain⟨newCap,c9,hrun9,hnc,hcs9,hrep9⟩:=j6 (P:=P) (ty:=t) (n:=els.length+1-j) (l:=els.take j) (b:=b7) (cap:=cap7) ok.ht ok.hit ok.hz hinfo ok.hg (hszE▸hszP) (by omega) (shx:=sh) (by rw[htl];exact hsrc) (.inr rfl) (by omega) (by omega);obtain⟨hshT,zv,hzv,hshz,hzp,hzw,hrl⟩:=bJ ok.hz;have hsh7:∀q∈els,aD sh q=true/\q.plain=true/\q.wf:=hsh;have hgrow:=fX (sh:=sh) (e:=e) (fz:=(0,0)) (k:=40) (els:=els.take j++List.replicate (els.length+1-j) z) (c:=c9) (cap:=newCap) hc7.ok.inv rfl (by simpa using hnc) hcs9 (.inl rfl)
     (fun q hq=>by
       rcases List.mem_append.1 hq with hq|hq
       . exact hsh7 q (List.mem_of_mem_take hq)
       . rw[List.eq_of_mem_replicate hq];exact⟨hshz,hzp,hzw⟩) hrep9
    rw[htl]at hrun9 hnc;refine xA hF rfl (fun c h=>by cases h) (Rv (by simpa[Act.eval]using hev34) (by simpa[Act.eval]using hv39) hrun9) ?_;have hc8:=xp (w2:={w7 with drawn:=w7.drawn+1,heap:=w7.heap.push (.cells c9 e)}) hc7 (d:=some 40) (us:=[(40,.grow sh (els.take j++List.replicate (els.length+1-j) z))]) (v:=.sl 40 [] 0 (j+(els.length+1-j))) (fun i hi=>by cases hi;exact wd (by decide) hs7) ⟨rfl,rfl⟩ hgrow (jz hnc)
     (fun _ k o hk=>by simp only[w6,wn]at hk;rw[hk.1];exact .inr (by decide))
    rw[show j+(els.length+1-j)=els.length+1 by omega]at hc8;have hc8:Came True gl {tmps:=vs++Array.replicate (fn.ntmps-vs.size) undef,defers:=[]} w G (inH sh els x) (a7.put (some 40) (.slice (some ⟨w7.heap.size,0,none⟩) (els.length+1) newCap)) {w7 with drawn:=w7.drawn+1,heap:=w7.heap.push (.cells c9 e)} _
      {fr:=[.set 0 (.sl 100000 [] 0 els.length),.set 1 (.int .i64 j),.set 2 (.sl 100001 [] 0 1),.set 7 (.int .i64 1),.set 40 (.sl 40 [] 0 (els.length+1))],hp:=(40,.grow sh (els.take j++List.replicate (els.length+1-j) z))::inH sh els x}:=cI [0,1,2,7,40] hc8
    have e40:(Eo t it bt ut ov rr).dst=some 40:=rfl;rw[e40,show j+(els.length+1-j)=els.length+1 by omega];generalize a7.put (some 40) (.slice (some ⟨w7.heap.size,0,none⟩) (els.length+1) newCap)=a8 at hc8;generalize ({w7 with drawn:=w7.drawn+1,heap:=w7.heap.push (.cells c9 e)}:World)=w8 at hc8;have hs8:95<=a8.tmps.size:=by rw[hc8.size];exact hN
    rw[show vU t it bt ut ov rr=vU t it bt ut ov rr++[]from(wN _).symm];refine jJ (L:=True) S.op _ _ ok.b9 (by simp[vU]) a8 w8 _ _ _ (qC (by simp[vU]) hs8) (fun _=>by rfl) (hg.moved hc8.move) hc8.ok (show _=some _ from rfl) _ fun a9 w9 G9 hc9=> ?_
    have hc9:Came True gl {tmps:=vs++Array.replicate (fn.ntmps-vs.size) undef,defers:=[]} w G (inH sh els x) a9 w9 G9 (JI sh z els x j):=cI [0,1,2,7,9] (hc8.trans hc9);refine wpListIn_nil ?_;obtain⟨st10,hev10,hfr10,hhp10⟩:=So (gl:=gl) (cl:=cl) (sh:=sh) (z:=z) (els:=els) (x:=x) (i:=j) hjl hszE hlim;refine iR (L:=True) S _ _ _ ok.s10 rfl (fun _=>by rfl) (cU (by rw[hc9.size];exact hN) _ (FV t it bt ut ov rr)) a9 w9 G9 _ st10 .ret (hg.moved hc9.move) hc9.ok rfl hev10 _ fun a' w' G' hc10=> ?_
    have hc10:=hc9.trans hc10;have hk10:st10.hp.get 100000=some (.grow sh els):=by rw[hhp10];rfl
    have hc11:=uj hc10 (us:=[(100000,.dead)]) (jb hc10.ok.inv hk10) (fun _ k o hk=>by
     simp only[w6,wn]at hk;rw[hk.1];exact .inl (by rw[hk10];simp))
    refine⟨hc11.defers,?_⟩;refine yw (K:=40) (l:=kZ els j x) hres (.inr (.inl rfl)) hc11 hfr10 fun k=> ?_
    simp only[wT,wW,Hp.get,hhp10,inH];by_cases h1:100000=k
    . simp[h1]
    . by_cases h2:40=k
      . subst h2;simp
      . simp[h1,h2]
   . rw[if_neg (by simp[hroom])];refine wpIn_skip ?_;have hroom:els.length+1<=cap:=by omega
     have hreg0:=Ah hc3 (we _) hr';refine wpIn_seq ?_;obtain⟨st13,hev13,hst13⟩:=NU (gl:=gl) (cl:=cl) (sh:=sh) (els:=els) (x:=x) (i:=j) (t:=t) (it:=it) (bt:=bt) (ut:=ut) (ov:=ov) (rr:=rr) hlim;unfold JE;refine wpIn_region_lit (jJ (L:=True) S.op _ _ ok.o13 (by simp[pK]) a5 w5 G5 _ st13 (qC (by simp[pK]) hs6) (fun _=>by rfl) hg6 hc6.ok hev13 _ fun a7 w7 G7 hc7=> ?_);have hc7:Came True gl {tmps:=vs++Array.replicate (fn.ntmps-vs.size) undef,defers:=[]} w G (inH sh els x) a7 w7 G7
       {fr:=[.set 1 (.int .i64 j),.set 2 (.sl 100001 [] 0 1),.set 7 (.int .i64 1),.set 56 (.sl 100000 [] 0 els.length),.set 59 (.int .i64 ((els.length:Int)+1))],hp:=inH sh els x}:=by
      have:=cI [1,2,7,56,59] (hc6.trans hc7);rw[hst13]at this;exact this
     have hs7:95<=a7.tmps.size:=by rw[hc7.size];exact hN
     have hv56:RepT w7.heap G7 (a7.tmps.getD 56 undef) (.sl 100000 [] 0 els.length):=hc7.ok.fr 56;have hv59:RepT w7.heap G7 (a7.tmps.getD 59 undef) (.int .i64 ((els.length:Int)+1)):=hc7.ok.fr 59;rw[aq rfl]at hv56;have hv59:=aU hv59;obtain⟨hev56,hr7⟩:a7.tmps.getD 56 undef= .slice (some ⟨b',0,none⟩) els.length cap/\G7.reg 100000=some (.blk b' (.ar cap sh)):=by
      rcases bF hv56 (hc7.ok.inv.noN (k:=100000) rfl trivial)with ⟨_,_,_,_,_,hreg⟩|⟨b7,root7,m7,e7,o7,x7,hr7,hs7',ho7,hle7,he7,hx7⟩
      . have:=kQ hc7 (we _) hreg hreg0;cases this
      . have:=kQ hc7 (we _) hr7 hreg0;cases this;simp only[Sh.sub,wE,Sh.ar.injEq]at hs7';obtain⟨rfl,rfl⟩:=hs7';simp only[Sh.off,wE]at ho7;subst ho7;have hx:=hx7 (by omega);simp only[wh,wi]at hx;subst hx;exact⟨he7,hr7⟩
     refine xA hF rfl (fun c h=>by cases h) (MV ok.ht hinfo (by simpa[Act.eval]using hev56) (by simpa[Act.eval]using hv59) hroom) ?_;have hrs:RepT w7.heap G7 (.slice (some ⟨b',0,none⟩) (els.length+1) cap) (.sl 100000 [] 0 (els.length+1)):=by have:=RepS.sl (H:=w7.heap) (G:=G7) 100000 [] 0 (els.length+1) b' (.ar cap sh) cap sh 0 hr7 rfl rfl (by omega);rw[aq rfl];simpa using this
     have hc8:=lH hc7 (d:=60) (wd (by decide) hs7) hrs;have hc8:Came True gl {tmps:=vs++Array.replicate (fn.ntmps-vs.size) undef,defers:=[]} w G (inH sh els x) (a7.put (some 60) (.slice (some ⟨b',0,none⟩) (els.length+1) cap)) w7 G7
       {fr:=[.set 1 (.int .i64 j),.set 2 (.sl 100001 [] 0 1),.set 7 (.int .i64 1),.set 60 (.sl 100000 [] 0 (els.length+1))],hp:=inH sh els x}:=cI [1,2,7,60] hc8
     have e60:(yB t it bt ut ov rr).dst=some 60:=rfl;rw[e60];generalize a7.put (some 60) (.slice (some ⟨b',0,none⟩) (els.length+1) cap)=a8 at hc8;have hs8:95<=a8.tmps.size:=by rw[hc8.size];exact hN
     rw[show pI t it bt ut ov rr=pI t it bt ut ov rr++[]from(wN _).symm];refine jJ (L:=True) S.op _ _ ok.b13 (by simp[pI]) a8 w7 _ _ _ (qC (by simp[pI]) hs8) (fun _=>by rfl) (hg.moved hc8.move) hc8.ok (show _=some _ from rfl) _ fun a9 w9 G9 hc9=> ?_
     have hc9:Came True gl {tmps:=vs++Array.replicate (fn.ntmps-vs.size) undef,defers:=[]} w G (inH sh els x) a9 w9 G9 (qv sh els x j):=cI [0,1,2,7] (hc8.trans hc9);refine wpListIn_nil ?_;have hs9:95<=a9.tmps.size:=by rw[hc9.size];exact hN
     refine wpIn_seq (wpIn_seq ?_);obtain⟨st14,hev14,hst14⟩:=NT (gl:=gl) (cl:=cl) (sh:=sh) (els:=els) (x:=x) (i:=j) (t:=t) (it:=it) (bt:=bt) (ut:=ut) (ov:=ov) (rr:=rr) hjl hszE hlim;unfold JD;refine wpIn_region_lit (jJ (L:=True) S.op _ _ ok.o14 (by simp[pJ]) a9 w9 G9 _ st14 (qC (by simp[pJ]) hs9) (fun _=>by rfl) (hg.moved hc9.move) hc9.ok hev14 _ fun aa wa Ga hca=> ?_);have hca:Came True gl {tmps:=vs++Array.replicate (fn.ntmps-vs.size) undef,defers:=[]} w G (inH sh els x) aa wa Ga {fr:=(qv sh els x j).fr++[.set 61 (.sl 100001 [] 0 1),.set 66 (.sl 100000 [] (j+1) (els.length-j))],hp:=inH sh els x}:=by have:=cI [0,1,2,7,61,66] (hc9.trans hca);rw[hst14]at this;exact this
     have hsa:95<=aa.tmps.size:=by rw[hca.size];exact hN
     have hv61:RepT wa.heap Ga (aa.tmps.getD 61 undef) (.sl 100001 [] 0 1):=hca.ok.fr 61;have hv66:RepT wa.heap Ga (aa.tmps.getD 66 undef) (.sl 100000 [] (j+1) (els.length-j)):=hca.ok.fr 66;rw[aq rfl]at hv61 hv66;have hsne:sh≠.sc:=ok.ne;obtain⟨b1,c1,hev61,⟨ca,ea,fa,hba,hfa⟩,hat1⟩:∃b1 c1,aa.tmps.getD 61 undef= .slice (some b1) 1 c1/\(∃ca ea fa,wa.heap[b1.block]? =some (.cells ca ea fa)/\fa.1=fa.2)/\Ga.At 100001 b1.block (.ar c1 sh):=by
      rcases hca.ok.inv.obs 100001 (.grow sh [x]) rfl with ⟨h0,_⟩|⟨bb,cap1,c1,e1,fz1,hr1,hcl1,hb1',hcs1,hf1,hsh1,hrc1⟩
      . cases h0
      rcases bF hv61 (hca.ok.inv.noN (k:=100001) rfl trivial)with ⟨_,_,_,_,_,hreg⟩|⟨b7,root7,m7,e7,o7,x7,hr7',hs7',ho7,hle7,he7,hx7⟩
      . rw[hreg]at hr1;cases hr1
      rw[hr7']at hr1;cases hr1;simp only[Sh.sub,wE,Sh.ar.injEq]at hs7';obtain⟨rfl,rfl⟩:=hs7';refine⟨⟨bb,x7,none⟩,cap1,by rw[he7,wg],⟨_,_,_,hb1',?_⟩,.of hr7'⟩;rcases hf1 with h|⟨h,_⟩
      . exact h
      . exact absurd h hsne
     obtain⟨b2,c2,hev66,⟨cb,eb,fb,hbb,hcb⟩,hat2⟩:∃b2 c2,aa.tmps.getD 66 undef= .slice (some b2) (els.length-j) c2/\(∃cb eb fb,wa.heap[b2.block]? =some (.cells cb eb fb)/\cb.size≠0)/\Ga.At 100000 b2.block (.ar cap sh):=by
      rcases hca.ok.inv.obs 100000 (.grow sh els) rfl with ⟨h0,_⟩|⟨bb,cap1,c1,e1,fz1,hr1,hcl1,hb1',hcs1,hf1,hsh1,hrc1⟩
      . subst h0;simp at hjl
      have:=kQ hca (we _) hr1 hreg0;cases this;rcases bF hv66 (hca.ok.inv.noN (k:=100000) rfl trivial)with ⟨_,_,_,_,_,hreg⟩|⟨b7,root7,m7,e7,o7,x7,hr7',hs7',ho7,hle7,he7,hx7⟩
      . rw[hreg]at hr1;cases hr1
      rw[hr7']at hr1;cases hr1;refine⟨⟨_,x7,none⟩,m7-(j+1),he7,⟨_,_,_,hb1',?_⟩,.of hr7'⟩;rw[hcs1];exact Nat.mul_ne_zero (by omega) (by omega)
     have hne:b1.block≠b2.block:=fun e=>by rw[<-e]at hat2;have:=hca.ok.inv.dist 100001 100000 b1.block _ _ hat1 hat2 ⟨_,rfl,by simp⟩ ⟨_,rfl,by simp⟩;cases this
     refine xA hF rfl (fun c h=>by cases h) (HM ok.ht hinfo ok.hov (by simpa[Act.eval]using hev61) (by simpa[Act.eval]using hev66) hne hba hbb hfa hcb) ?_;have hcb:=lH hca (d:=67) (wd (by decide) hsa) (cO false);have e67:(yA t it bt ut ov rr).dst=some 67:=rfl;rw[e67];generalize aa.put (some 67) (.bool false)=ab at hcb;have hsb:95<=ab.tmps.size:=by rw[hcb.size];exact hN
     rw[show pH t it bt ut ov rr=pH t it bt ut ov rr++[]from(wN _).symm];refine jJ (L:=True) S.op _ _ ok.b14 (by simp[pH]) ab wa _ _ _ (qC (by simp[pH]) hsb) (fun _=>by rfl) (hg.moved hcb.move) hcb.ok (show _=some _ from rfl) _ fun ac wc Gc hcc=> ?_
     have hcc:=hcb.trans hcc;refine wpListIn_nil ?_;have hxc:ac.eval (wB 68)= .bool true:=cA (hcc.ok.fr 68);have hcd:Came True gl {tmps:=vs++Array.replicate (fn.ntmps-vs.size) undef,defers:=[]} w G (inH sh els x) ac wc Gc (qv sh els x j):=cI [0,1,2,7] hcc;refine wpIn_cond hxc ?_;rw[if_pos rfl];obtain⟨st15,hev15,hfr15,hhp15⟩:=Sn (gl:=gl) (cl:=cl) (sh:=sh) (els:=els) (x:=x) (i:=j) hjl hszE hlim;refine iR (L:=True) S _ _ _ ok.s15 rfl (fun _=>by rfl) (cU (by rw[hcd.size];exact hN) _ (FU t it bt ut ov rr)) ac wc Gc _ st15 .ret (hg.moved hcd.move) hcd.ok rfl hev15 _ fun a' w' G' hce=> ?_
     have hce:=hcd.trans hce;have hk15:st15.hp.get 100000=some (.grow sh (kZ els j x)):=(hhp15 _).trans rfl;have hk200:st15.hp.get 200=none:=(hhp15 _).trans rfl;have hfr6:st15.fr.get 6= .sl 100000 [] 0 (els.length+1):=by have:df st15.fr [6]=[.set 6 (st15.fr.get 6)]:=rfl;rw[this]at hfr15;simpa using hfr15
     have hv6:=hce.ok.fr 6;rw[hfr6,aq rfl]at hv6;rcases hce.ok.inv.obs _ _ hk15 with ⟨h0,_⟩|⟨bl,cap1,c1,e1,fz1,hr1,hcl1,hb1',hcs1,hf1,hsh1,hrc1⟩
     . simp[kZ]at h0
     have hmv:=vo hce.ok.inv (k:=200) hk15 (by simp) hk200 hr1 w'.heap (.grow sh (kZ els j x)) rfl (fun _ _=>rfl) fun le=>.inr ⟨bl,cap1,c1,e1,fz1,by simp[Gh.with],hcl1,hb1',hcs1,hf1,hsh1,hrc1.mono le⟩
     have hcf:=uj hce (us:=[(100000,.dead),(200,.grow sh (kZ els j x))]) hmv (fun _ k o hk=>by
      simp only[List.mem_cons,List.not_mem_nil,or_false,wn]at hk;rcases hk with ⟨rfl,_⟩|⟨rfl,_⟩
      . exact .inl (by rw[hk15];simp)
      . exact .inr (by decide))
     have hcg:=EM hcf (fr:=[.set 6 (.sl 200 [] 0 (els.length+1))]) fun i=>by
      simp only[Fr.get];by_cases h6:6=i
      . subst h6;rw[if_pos rfl,aq rfl];rcases bF hv6 (Nl hr1)with ⟨_,_,_,_,_,hreg⟩|⟨b7,root7,m7,e7,o7,x7,hr7',hs7',ho7,hle7,he7,hx7⟩
        . rw[hreg]at hr1;cases hr1
        rw[hr7']at hr1;cases hr1;simp only[Sh.sub,wE,Sh.ar.injEq]at hs7';obtain⟨rfl,rfl⟩:=hs7';simp only[Sh.off,wE]at ho7;subst ho7;have hx:=hx7 (by omega);subst hx;rw[he7];exact .sl 200 [] 0 (els.length+1) bl (.ar cap1 sh) cap1 sh 0 (by simp[Gh.with]) rfl rfl (by omega)
      . rw[if_neg h6];trivial
     refine⟨hcg.defers,?_⟩;refine yw (K:=200) (l:=kZ els j x) hres (.inr (.inr rfl)) hcg rfl fun k=> ?_
     simp only[wT,wW,Hp.get,hhp15];by_cases h1:100000=k
     . simp[h1]
     . by_cases h2:200=k
       . subst h2;simp
       . simp[h1,h2]
end
def VC :Its->Bool
 | .op _ m l=>bE m||VC l
 | _=>false
def cqI (P:Program)(im:Im)(ops:Array Oper):Nat->Option (Nat×Bool)->Nat->Nat->Option (Its×Nat)
 | 0,_,_,_=>none
 | n+1,g,lo,i =>
   match ops[i]? with
   | none=>some (.nil,i)
   | some o =>
     if o.guard=g then
      (aF P im o).bind fun m=>(cqI P im ops n g lo (i+1)).map fun q=>(.op o.dst m q.1,q.2)
     else
      match o.guard with
      | none=>some (.nil,i)
      | some (j,want) =>
        if lo<=j then
         (cqI P im ops n (some (j,want)) i i).bind fun q =>
           match ops[q.2]? with
           | some {dst:=some d,op:=.pick (.tmp c) a b,..} =>
             (aw a).bind fun a=>(aw b).bind fun b =>
               match (ops[i]?).bind (·.dst),(ops[q.2-1]?).bind (·.dst)with
               | some l,some h=>if VC q.1=true then none else(cqI P im ops n g lo (q.2+1)).map fun z=>(.ite c want q.1 l (h+1) d a b z.1,z.2)
               | _,_=>none
           | _=>none
        else some (.nil,i)
def cqD (P:Program)(an:Ann)(pr:List (Nat×List (Nat×Nat)))(ops:Array Oper):MC :=
 match bw (gI P an.imf ops) ops.toList with
 | some l=>.draw l (match (ops[0]?).bind (·.dst)with|some d=>((pr.find? (·.1==d)).map (·.2)).getD []|none=>[])
 | none=>.bad
def cqR (P:Program)(an:Ann)(pr:List (Nat×List (Nat×Nat)))(ops:Array Oper):Bool->MC
 | false =>
   match cqI P an.imf ops (2*ops.size+2) none 0 0 with
   | some q=>if q.2=ops.size then .reg q.1 else .bad
   | none=>cqD P an [] ops
 | true=>cqD P an pr ops
def cq (P:Program)(an:Ann)(pr:List (Nat×List (Nat×Nat))):Nat->Code->MC
 | _,.skip=>.skip
 | _,.region _ ops draw=>cqR P an pr ops draw
 | id,.seq a b=>.seq (cq P an pr id a) (cq P an pr id b)
 | id,.cond c a b=>match aw c with
   | some c=>.cond c (cq P an pr id a) (cq P an pr id b)
   | none=>.bad
 | _,.block id b=>match BA an.after id with
   | some ks=>.kept ks (.block id (cq P an pr id b))
   | none=>.block id (cq P an pr id b)
 | id,.loop b=>.loop ((BA an.loops id).getD []) (cq P an pr 1000000 b)
 | _,.exit id=>.exit id
 | _,.ret=>.ret
 | id,.scope b=>.scope (cq P an pr id b)
 | _,.label _=>.skip
 | id,.rangeFunc g _ _ _=>match ze an.rfs id with
   | some q=>match aw g with
     | some g=>.rangeF q.rid g q.slots q.kd q.dc
     | none=>.bad
   | none=>.bad
 | _,_=>.bad
def lpB (id:Nat):MC->Option MC
 | .seq a b=>(lpB id a).or (lpB id b)
 | .cond _ a b=>(lpB id a).or (lpB id b)
 | .block i (.loop _ b)=>if i=id then some b else lpB id b
 | .block _ b=>lpB id b
 | .kept _ b=>lpB id b
 | .scope b=>lpB id b
 | .loop _ b=>lpB id b
 | _=>none
def lpM (id:Nat)(m:MC):MC:=(lpB id m).getD .bad
def wz {p:MC->Prop}{m:MC}(h:p m:=by show _=_;conv=>lhs;cbv):MC:=m
def wq (k:Nat)(m:MC){r:MC}(h:lpM k m=r:=by conv=>lhs;cbv):MC:=r
attribute [go_sem] wz wq
theorem okc {P:Program}{gl:Gl}{f:Nat}{fd:Fd}{fn:Func}(an:Ann)(h:P.funcs[f]? =some fn)(hlt:f<RB:=by decide)(h0:fd.giv=none:=by rfl)(h1:(fn.name== "runtime.NumGoroutine")=false:=by kernel_rfl)(h2:(fn.body.isSome)=true:=by rfl)(h3:comp P an 1000000 (fn.body.getD .skip)=some fd.body:=by kernel_rfl)
  (h4:de fn.ntmps (fn.body.getD .skip)=true:=by kernel_rfl) (h5:bw (fM P) fn.results.toList=some fd.res:=by kernel_rfl)
  (h6:(dv an fn.ntmps 1000000 (fn.body.getD .skip)).map (fun x=>gl.ri x.1)=(dv an fn.ntmps 1000000 (fn.body.getD .skip)).map fun x=>some x.2:=by kernel_rfl):FnOk P gl f fd:=by
 cases hb:fn.body with
 | none=>rw[hb]at h2;cases h2
 | some code =>rw[hb]at h3 h4 h6;exact .code h0 hlt ⟨fn,code,an,h,h1,hb,h3,h4,h5,h6⟩
end Go.Ev
