/-
  One operation of the evaluator is one of the model's: types, operands, loads and stores. No condition.
-/
import Derived.Test.YtaloneiaejhopaaGreatDoorEvD
import Derived.Laws.Strings
import Derived.Lib.Strings
set_option linter.all false
open Option renaming some.injEq->wB,map_eq_some_iff->wC,bind_eq_some_iff->wD,map_some->wE,map_none->wF
open Bool renaming and_eq_true->wG,false_eq_true->wH,true_and->wJ,or_false->wK
open Go.Sem renaming run_bind->wM,run_pure->wN
open Go.Result renaming andThen_ok->wO,ok->wP
open List renaming eq_of_mem_replicate->wQ,length_replicate->wR,getElem_append_left->wS,getElem?_eq_getElem->wT,all_eq_true->wU,append_assoc->wW,getElem_append_right->wX,getElem?_eq_some_iff->wY,mem_of_getElem?->wZ,length_append->w0,mem_of_mem_take->w1,mem_or_eq_of_mem_set->w2,take_append_drop->w3,mem_of_mem_drop->w5,length_take->w6,range->w7
open Nat renaming zero_add->w8,le_refl->w9,add_assoc->wa,add_zero->wb,add_mul->wd,succ_lt_succ->we,min_eq_left->wg
open Prod renaming mk.injEq->wh
open Array renaming range->wi,getElem?_eq_some_iff->wj,length_toList->wk,toArray_toList->wm,getElem?_map->wn
open Int renaming mul_le_mul_of_nonneg_left->wo,mul_le_mul->wp
namespace Go.Ev
open Go
section
variable {P :Program} {w:World} {H:aT} {G:Gh}
theorem aC {t:TypeId}{d:TypeDesc}(h:P.underlying t=some d):(underlying t).run P w= .ok d w:=by simp[underlying,h]
theorem fu {t:TypeId}{i:TypeInfo}(h:P.info? t=some i):(typeInfo t).run P w= .ok i w:=by simp[typeInfo,h]
theorem br {t:TypeId}{n:Nat}(h:(P.info? t).map (·.size)=some n):(sizeOf t).run P w= .ok n w:=by
 cases hi:P.info? t with
 | none=>simp[hi]at h
 | some i=>simp[hi]at h;simp[sizeOf,fu hi,h]
theorem bx :∀{n:Nat} {t:TypeId} {sh:Sh},dh P n t=some sh->(P.info? t).map (·.size)=some sh.size
 | 0,_,_,h=>by simp[dh]at h
 | n+1,t,sh,h=>by
   simp only[dh]at h;split at h
   . simp only[wD]at h;obtain⟨l,_,h⟩:=h;split at h
     . rename_i hc;simp only[wG,beq_iff_eq]at hc;cases h;simpa[Sh.size]using hc.2
     . cases h
   . simp only[wD]at h;obtain⟨s,_,h⟩:=h;split at h
     . rename_i hc;simp only[wG,beq_iff_eq]at hc;cases h;simpa[Sh.size]using hc.2
     . cases h
   . cases h
   . split at h
     . rename_i hc;cases h;simpa[Sh.size]using hc
     . cases h
   . cases h
theorem kG {n:Nat}{t:TypeId}{sh:Sh}(h:dh P n t=some sh):(isAgg t).run P w= .ok sh.agg w:=by
 cases n with
 | zero=>simp[dh]at h
 | succ n =>
   simp only[dh]at h;split at h
   . rename_i hu;simp only[wD]at h;obtain⟨l,_,h⟩:=h;split at h
     . cases h;simp[isAgg,aC hu,Sh.agg]
     . cases h
   . rename_i hu;simp only[wD]at h;obtain⟨s,_,h⟩:=h;split at h
     . cases h;simp[isAgg,aC hu,Sh.agg]
     . cases h
   . cases h
   . rename_i d hd h1 h2 h3 hu;split at h
     . cases h;simp only[isAgg,wM,aC hu,wO,Sh.agg];cases d<;>simp_all
     . cases h
   . cases h
theorem pL {sh:Sh}{a:AV}(h:aD sh a=true):a.isAgg=sh.agg:=by
 cases sh with
 | sc=>simp only[aD]at h;simp[AV.isAgg_scalar h,Sh.agg]
 | st fs=>simp only[aD,wG]at h;simp[h.1,Sh.agg]
 | ar n e=>simp only[aD,wG]at h;simp[h.1.1,Sh.agg]
theorem bV {sh:Sh}{a:AV}(h:aD sh a=true):a.known=true:=by
 cases sh with
 | sc=>simp only[aD]at h;exact AV.known_scalar h
 | st fs=>simp only[aD,wG]at h;revert h;cases a<;>simp[AV.isAgg,AV.known]
 | ar n e=>simp only[aD,wG]at h;revert h;cases a<;>simp[AV.isAgg,AV.known]
theorem aq {v:Value}{a:AV}(h:a.scalar=true):RepT H G v a↔RepS H G v a:=by rw[RepT.of_known (AV.known_scalar h),RepV.scalar h]
theorem aU {v:Value}{k:IntKind}{n:Int}(h:RepT H G v (.int k n)):v= .int k n:=by rw[aq rfl]at h;cases h;rfl
theorem cA {v:Value}{b:Bool}(h:RepT H G v (.bool b)):v= .bool b:=by rw[aq rfl]at h;cases h;rfl
theorem ee {v:Value}{l:List UInt8}(h:RepT H G v (.str l)):v= .string ⟨⟨l⟩⟩:=by rw[aq rfl]at h;cases h;rfl
theorem ba (k:IntKind)(n:Int):RepT H G (.int k n) (.int k n):=(aq rfl).2 (.int k n)
theorem cO (b:Bool):RepT H G (.bool b) (.bool b):=(aq rfl).2 (.bool b)
theorem gB (l:List UInt8):RepT H G (.string ⟨⟨l⟩⟩) (.str l):=(aq rfl).2 (.str l)
theorem RepV.cells {v:Value}{a:AV}(h:RepV H G v a):∃vs,v.cells.toList=vs/\RepL H G vs a.flat/\v=dQ a vs/\∀x∈vs,x.oneCell'=true:=by
 obtain⟨hk,hw,vs,hl,hv⟩:=h;have h1:∀x∈vs,x.oneCell'=true:=fun x hx=>by obtain⟨i,hi,rfl⟩:=List.getElem_of_mem hx;exact(hl.get i hi (hl.len▸hi)).oneCell
 refine⟨vs,?_,hl,hv,h1⟩;subst hv;unfold dQ;by_cases ha:a.isAgg=true
 . simp[ha,Value.cells]
 . have hsc:a.scalar=true:=by cases a<;>simp_all[AV.isAgg,AV.scalar,AV.known]
   rw[AV.flat_scalar hsc]at hl;have hlen:=hl.len
   match vs,hlen,h1 with
   | [x],_,h1 =>have:=h1 x (by simp);simp only[ha,wH,if_false,List.headD_cons];cases x<;>simp_all[Value.cells,Value.oneCell']
theorem po {a:AV}{val:Nat->Value}(hk:a.known=true)(hw:a.wf)(h:∀j (h:j<a.flat.length),RepS H G (val j) a.flat[j]) :
  RepV H G (dQ a ((w7 a.flat.length).map val)) a :=
 ⟨hk,hw,_,⟨by simp,fun j h1 h2=>by simpa using h j h2⟩,rfl⟩
theorem kK {n:Nat}{t:TypeId}{sh:Sh}{a:AV}{b o:Nat}{c:Array Value}{e:TypeId}{fz:Nat×Nat}(hsh:dh P n t=some sh)
  (hag:a.isAgg=sh.agg) (hn:a.flat.length=sh.size) (hb:w.heap[b]? =some (.cells c e fz)) {val:Nat->Value}
  (hv:∀j,j<a.flat.length->c[o+j]? =some (val j)) (hk:a.known=true) :
  (loadVar t ⟨b,o,none⟩).run P w= .ok (dQ a ((w7 a.flat.length).map val)) w:=by
 simp only[loadVar,wM,kG hsh,wO]
 cases hs:sh.agg with
 | true =>simp only[if_true,wM,br (bx hsh),wO];rw[ga hb val sh.size (fun j hj=>hv j (by omega))];simp[dQ,hag,hs,hn]
 | false =>
   have hsc:a.scalar=true:=by rw[hs]at hag;cases a<;>simp_all[AV.isAgg,AV.scalar,AV.known]
   rw[AV.flat_scalar hsc]at hv ⊢;simp only[wH,if_false];rw[qf hb (v:=val 0) (by simpa using hv 0 (by simp))];simp[dQ,hag,hs]
theorem nT {n:Nat}{t:TypeId}{sh:Sh}{v:Value}{vs:List Value}{b o:Nat}{c:Array Value}{e:TypeId}{fz:Nat×Nat}(hsh:dh P n t=some sh)
  (hvs:v.cells.toList=vs) (hn:vs.length=sh.size) (hb:w.heap[b]? =some (.cells c e fz)) (hf:free c fz) (hle:o+vs.length<=c.size)
  (h1:∀x∈vs,x.oneCell'=true) :
  (storeVar t ⟨b,o,none⟩ v).run P w= .ok () {w with heap:=w.heap.setIfInBounds b (.cells (aY c o vs) e fz)}:=by
 have hsz:v.cells.size=sh.size:=by rw[<-hn,<-hvs];simp
 simp only[storeVar,wM,br (bx hsh),wO];simp only[hsz,ne_eq,not_true,if_false];rw[hvs,bp (fz:=fz) (e:=e) vs o 0 c w hb (by simpa using hle) hf h1];simp
structure GlOk (H:aT)(G:Gh)(gl:Gl):Prop where
 tab:∀i sh a,gl.tbl i=some (sh,a)->G.imm i/\aD sh a=true/\a.plain=true/\a.wf/\∃c e fz,H[i]? =some (.cells c e fz)/\RepC H G c 0 a.flat
 ri:∀i r,gl.ri i=some r->G.yl i=some r
theorem GlOk.mono {H':aT}{G':Gh}{gl:Gl}(le:Le H G H' G')(h:GlOk H G gl):GlOk H' G' gl:=⟨fun i sh a hi=>by
 obtain⟨h1,h2,h3,h4,c,e,fz,h5,h6⟩:=h.tab i sh a hi;exact⟨(le.imm i h1).1,h2,h3,h4,c,e,fz,(le.imm i h1).2.trans h5,h6.mono le⟩,fun i r hi=>le.yl _ _ (h.ri i r hi)⟩
structure StOk (H:aT)(G:Gh)(st:St)(tmps:Array Value):Prop where
 inv:Inv H G st.hp
 fr:∀i,RepT H G (tmps.getD i undef) (st.fr.get i)
theorem od {v:Value}{a:AV}(h:IV v=some a):a.scalar=true/\a.plain=true/\RepS H G v a:=by
 unfold IV at h;split at h<;>first|(cases h;done)|skip
 . cases h;exact⟨rfl,rfl,.bool _⟩
 . cases h;exact⟨rfl,rfl,.int _ _⟩
 . cases h;exact⟨rfl,rfl,.str _⟩
 . cases h;exact⟨rfl,rfl,.lstE _ _ _ _ fun _=>rfl⟩
 . cases h;exact⟨rfl,rfl,.s _ rfl⟩
 . cases h;exact⟨rfl,rfl,.s _ rfl⟩
 . cases h;exact⟨rfl,rfl,.s _ rfl⟩
 . cases h;exact⟨rfl,rfl,.s _ rfl⟩
theorem aG {gl:Gl}{st:St}{a:Act}(hg:GlOk H G gl)(hst:StOk H G st a.tmps){x:Operand}{y:Opd}(h:aw x=some y) :
  RepT H G (a.eval x) (y.val gl st.fr):=by
 cases x with
 | tmp t=>simp[aw]at h;subst h;exact hst.fr t
 | const v =>simp only[aw,wC]at h;obtain⟨b,hb,rfl⟩:=h;obtain⟨h1,_,h2⟩:=od (H:=H) (G:=G) hb;exact(aq h1).2 h2
 | global g =>
   simp[aw]at h;subst h;simp only[Opd.val,Act.eval]
   cases hgl:gl.tbl g with
   | none=>trivial
   | some q =>
     obtain⟨sh,b⟩:=q;obtain⟨h1,h2,h3,h4,c,e,fz,h5,h6⟩:=hg.tab g sh b hgl;have hval:∀j,∃v,j<b.flat.length->c[0+j]? =some v/\(∀hj:j<b.flat.length,RepS H G v b.flat[j]):=fun j=>by
      by_cases hj:j<b.flat.length
      . obtain⟨v,hv,hr⟩:=h6 j hj;exact⟨v,fun _=>⟨hv,fun _=>hr⟩⟩
      . exact⟨undef,fun h=>absurd h hj⟩
     obtain⟨val,hval⟩:=Classical.axiomOfChoice hval;exact(aq rfl).2 (.cp sh b g 0 c e fz h1 h5 ⟨h2,h3,h4⟩ val (fun j hj=>(hval j hj).1) (fun j hj=>(hval j hj).2 hj))
 | func f =>simp only[aw,Option.ite_none_right_eq_some,wB]at h;obtain⟨hb,rfl⟩:=h;exact(aq rfl).2 (.fn _ f [] #[] (if_pos hb) rfl rfl (fun _=>undef) (fun i hi=>by simp at hi) (fun i hi=>by simp at hi))
theorem ic {c:Array Value}{off:Nat}{l:List AV}(h:RepC H G c off l) :
  ∃val:Nat->Value,(∀j,j<l.length->c[off+j]? =some (val j))/\∀j (hj:j<l.length),RepS H G (val j) l[j]:=by
 have hval:∀j,∃v,j<l.length->c[off+j]? =some v/\(∀hj:j<l.length,RepS H G v l[j]):=fun j=>by
  by_cases hj:j<l.length
  . obtain⟨v,hv,hr⟩:=h j hj;exact⟨v,fun _=>⟨hv,fun _=>hr⟩⟩
  . exact⟨undef,fun h=>absurd h hj⟩
 obtain⟨val,hval⟩:=Classical.axiomOfChoice hval;exact⟨val,fun j hj=>(hval j hj).1,fun j hj=>(hval j hj).2 hj⟩
theorem RepC.part {c:Array Value}{off:Nat}{l pre x post:List AV}(h:RepC H G c off l)(hl:l=pre++x++post):RepC H G c (off+pre.length) x:=by
 subst hl;intro j hj;obtain⟨v,hv,hr⟩:=h (pre.length+j) (by simp;omega);refine⟨v,by rw[wa];exact hv,?_⟩;have:(pre++x++post)[pre.length+j]'(by simp;omega)=x[j]:=by rw[wS (by simp;omega),wX (by omega)];simp
 rwa [this]at hr
end
def bX (P:Program)(w:World)(G:Gh)(hp:Hp)(s:Sem Next)(v:AV)(us:Hp):Prop :=
 ∃(v':Value) (w':World) (G':Gh),(w'.os=w.os/\w'.output=w.output)/\(s.run P w= .ok (.value v') w'\/(s.run P w= .ok .skip w'/\v'=undef)) /\
  Step w.heap G hp w'.heap G' (us++hp)/\RepT w'.heap G' v' v
variable {im :Im} {P:Program} {w:World} {G:Gh} {gl:Gl} {cl:Cl} {st:St} {a:Act} {o:Oper} {m:MOp} {v:AV} {us:Hp}
theorem AO {x:Operand}(hg:GlOk w.heap G gl)(hst:StOk w.heap G st a.tmps)(ho:o.op= .move x\/o.op= .assign x)(hc:aF P im o=some m)
  (hs:af gl cl st o.dst m=some (v,us)):bX P w G st.hp (execOp a.eval o) v us:=by
 have hc':(aw x).map MOp.mov=some m:=by rcases ho with ho|ho<;>simpa[aF,ho]using hc
 simp only[wC]at hc';obtain⟨y,hy,rfl⟩:=hc';simp only[af,wB,wh]at hs;obtain⟨rfl,rfl⟩:=hs;refine⟨a.eval x,w,G,⟨rfl,rfl⟩,.inl ?_,Step.refl hst.inv,aG hg hst hy⟩;rcases ho with ho|ho<;>simp[execOp,ho]
theorem F5 {c x y:Operand}(hg:GlOk w.heap G gl)(hst:StOk w.heap G st a.tmps)(ho:o.op= .pick c x y)(hc:aF P im o=some m)
  (hs:af gl cl st o.dst m=some (v,us)):bX P w G st.hp (execOp a.eval o) v us:=by
 simp only[aF,ho,wD,wC]at hc;obtain⟨c',hc',x',hx',y',hy',rfl⟩:=hc;simp only[af]at hs;split at hs
 . rename_i t ht;have hv:=aG hg hst hc';rw[ht]at hv;have hv:=cA hv;simp only[wB,wh]at hs;obtain⟨rfl,rfl⟩:=hs;refine⟨if t then a.eval x else a.eval y,w,G,⟨rfl,rfl⟩,.inl ?_,Step.refl hst.inv,?_⟩
   . simp[execOp,ho,hv,asBool]
   . cases t
     . exact aG hg hst hy'
     . exact aG hg hst hx'
 . cases hs
theorem FY {op:BinOp}{t:TypeId}{x y:Operand}{k k':IntKind}{m n:Int}:(eqGuard op t x y (.int k m) (.int k' n)).run P w= .ok () w:=by unfold eqGuard;split<;>rfl
theorem Cv {op:BinOp}{t:TypeId}{x y:Operand}{m n:Bool}:(eqGuard op t x y (.bool m) (.bool n)).run P w= .ok () w:=by unfold eqGuard;split<;>rfl
theorem FX {op:BinOp}{t:TypeId}{x y:Operand}{m n:ByteArray}:(eqGuard op t x y (.string m) (.string n)).run P w= .ok () w:=by unfold eqGuard;split<;>rfl
def AV.val1 :AV->Value
 | .int k n=>.int k n
 | .bool b=>.bool b
 | .str l=>.string ⟨⟨l⟩⟩
 | _=>undef
theorem OK {op:BinOp}{t:TypeId}{k k':IntKind}{m n:Int}{r:AV}(h:fQ op (.int k m) (.int k' n)=some r) :
  (binOp op t (.int k m) (.int k' n)).run P w= .ok r.val1 w/\RepT w.heap G r.val1 r:=by
 by_cases hop:op= .shl\/op= .shr
 . rcases hop with rfl|rfl
   all_goals
    simp only[fQ,bW]at h;split at h
    . cases h
    . rename_i hn;cases h;exact⟨by simp[binOp,Op.shift,hn,AV.val1],ba _ _⟩
 . have hb:fQ op (.int k m) (.int k' n)=if k=k' then aM op k m n else none:=by
    cases op<;>simp_all[fQ]
   rw[hb]at h;split at h
   . rename_i hk;subst hk;cases op<;>simp only[aM]at h
     all_goals first
      | (cases h;done)
      | (cases h;exact⟨by simp[binOp,Op.intArith,Op.intBits,Op.intCmp,AV.val1],by first|exact ba _ _|exact cO _⟩)
      | (split at h
         . cases h
         . rename_i hn;cases h;exact⟨by simp[binOp,Op.intDiv,hn,AV.val1],ba _ _⟩)
   . cases h
theorem OJ {op:BinOp}{t:TypeId}{l m:List UInt8}{r:AV}(h:fQ op (.str l) (.str m)=some r) :
  (binOp op t (.string ⟨⟨l⟩⟩) (.string ⟨⟨m⟩⟩)).run P w= .ok r.val1 w/\RepT w.heap G r.val1 r:=by
 cases op<;>simp only[fQ,p5]at h<;>(try (split at h))<;>(try (cases h;done))
 all_goals first
  | (cases h;exact⟨by simp[binOp,Op.stringOp,AV.val1],cO _⟩)
  | skip
 . rename_i hl;cases h;refine⟨?_,gB _⟩;simp only[binOp,Op.stringOp];rw[if_neg]
   . simp only[wN,AV.val1]
     congr 2
   . simp[IntKind.max,IntKind.signed,IntKind.bits,ByteArray.size,LIM]at hl ⊢;omega
theorem oK {d:Nat}{t:TypeId}{x y:Bool}(ht:P.underlying t=some .bool):(Op.equalIn (d+1) t (.bool x) (.bool y)).run P w= .ok (x==y) w:=by simp only[Op.equalIn,wM,aC ht,wO,wN]
theorem tT {t:TypeId}{x y:Bool}(ht:P.underlying t=some .bool):(Op.equal t (.bool x) (.bool y)).run P w= .ok (x==y) w:=oK (d:=9999) ht
theorem Lx {op:BinOp}{t:TypeId}{x y:Bool}{r:AV}(ht:P.underlying t=some .bool)(h:Bw op (.bool x) (.bool y)=some r) :
  (binOp op t (.bool x) (.bool y)).run P w= .ok r.val1 w/\RepT w.heap G r.val1 r:=by
 cases op<;>simp only[Bw]at h<;>(try (cases h;done))
 . cases h;exact⟨by simp only[binOp,wM,tT ht,wO,wN,AV.val1],cO _⟩
 . cases h;exact⟨by simp only[binOp,wM,tT ht,wO,wN,AV.val1],cO _⟩
theorem AR {bop:BinOp}{t yt:TypeId}{x y:Operand}{x' y':Opd}(hg:GlOk w.heap G gl)(hst:StOk w.heap G st a.tmps)(ho:o.op= .binOp bop t x y yt)
  (hx:aw x=some x') (hy:aw y=some y')
  (hs:af gl cl st o.dst (.bin bop x' y')=some (v,us)):bX P w G st.hp (execOp a.eval o) v us:=by
 have hvx:=aG hg hst hx;have hvy:=aG hg hst hy;simp only[af,wC]at hs;obtain⟨r,hr,hs⟩:=hs;simp only[wh]at hs;obtain⟨rfl,rfl⟩:=hs;have key:∃vx vy,a.eval x=vx/\a.eval y=vy/\(eqGuard bop t x y vx vy).run P w= .ok () w/\(binOp bop t vx vy).run P w= .ok r.val1 w/\RepT w.heap G r.val1 r:=by
  cases hx1:x'.val gl st.fr<;>cases hy1:y'.val gl st.fr<;>simp only[hx1,hy1]at hr hvx hvy<;>(try (simp only[fQ]at hr;cases hr;done))
  . exact⟨_,_,aU hvx,aU hvy,FY,OK hr⟩
  . exact⟨_,_,ee hvx,ee hvy,FX,OJ hr⟩
 obtain⟨vx,vy,h1,h2,h3,h4,h5⟩:=key;exact⟨_,w,G,⟨rfl,rfl⟩,.inl (by simp[execOp,ho,h1,h2,h3,h4]),Step.refl hst.inv,h5⟩
theorem Gk {bop:BinOp}{t yt:TypeId}{x y:Operand}{x' y':Opd}(hg:GlOk w.heap G gl)(hst:StOk w.heap G st a.tmps)(ho:o.op= .binOp bop t x y yt)
  (hx:aw x=some x') (hy:aw y=some y') (ht:P.underlying t=some .bool)
  (hs:af gl cl st o.dst (.binB bop x' y')=some (v,us)):bX P w G st.hp (execOp a.eval o) v us:=by
 have hvx:=aG hg hst hx;have hvy:=aG hg hst hy;simp only[af,wC]at hs;obtain⟨r,hr,hs⟩:=hs;simp only[wh]at hs;obtain⟨rfl,rfl⟩:=hs;have key:∃vx vy,a.eval x=vx/\a.eval y=vy/\(eqGuard bop t x y vx vy).run P w= .ok () w/\(binOp bop t vx vy).run P w= .ok r.val1 w/\RepT w.heap G r.val1 r:=by cases hx1:x'.val gl st.fr<;>cases hy1:y'.val gl st.fr<;>simp only[hx1,hy1]at hr hvx hvy<;>(try (simp only[Bw]at hr;cases hr;done));exact⟨_,_,cA hvx,cA hvy,Cv,Lx ht hr⟩
 obtain⟨vx,vy,h1,h2,h3,h4,h5⟩:=key;exact⟨_,w,G,⟨rfl,rfl⟩,.inl (by simp[execOp,ho,h1,h2,h3,h4]),Step.refl hst.inv,h5⟩
theorem NY {u:UnOp}{t:TypeId}{x:Operand}(hg:GlOk w.heap G gl)(hst:StOk w.heap G st a.tmps)(ho:o.op= .unOp u t x)(hc:aF P im o=some m)
  (hs:af gl cl st o.dst m=some (v,us)):bX P w G st.hp (execOp a.eval o) v us:=by
 simp only[aF,ho,wC]at hc;obtain⟨x',hx,rfl⟩:=hc;have hvx:=aG hg hst hx;simp only[af]at hs;split at hs
 . rename_i k n hv;rw[hv]at hvx;simp only[wB,wh]at hs;obtain⟨rfl,rfl⟩:=hs;exact⟨_,w,G,⟨rfl,rfl⟩,.inl (by simp[execOp,ho,aU hvx,Op.unary,Op.intArith]),Step.refl hst.inv,ba _ _⟩
 . rename_i k n hv;rw[hv]at hvx;simp only[wB,wh]at hs;obtain⟨rfl,rfl⟩:=hs;exact⟨_,w,G,⟨rfl,rfl⟩,.inl (by simp only[execOp,ho,aU hvx,Op.unary,Op.intBits,wM,wN,wO]),Step.refl hst.inv,ba _ _⟩
 . rename_i b hv;rw[hv]at hvx;simp only[wB,wh]at hs;obtain⟨rfl,rfl⟩:=hs;exact⟨_,w,G,⟨rfl,rfl⟩,.inl (by simp[execOp,ho,cA hvx,Op.unary]),Step.refl hst.inv,cO _⟩
 . cases hs
section
variable {im :Im} {P:Program} {w:World} {G:Gh} {gl:Gl} {cl:Cl} {st:St} {a:Act} {o:Oper} {m:MOp} {v:AV} {us:Hp}
theorem Gi {s d:TypeId}{k k0:IntKind}{x:Operand}{x':Opd}(hg:GlOk w.heap G gl)(hst:StOk w.heap G st a.tmps)(ho:o.op= .convert s d x)
  (hx:aw x=some x') (h1:P.underlying s=some (.int k0)) (h2:P.underlying d=some (.int k))
  (hs:af gl cl st o.dst (.conv k x')=some (v,us)):bX P w G st.hp (execOp a.eval o) v us:=by
 have hvx:=aG hg hst hx;simp only[af]at hs;split at hs
 . rename_i k' n hv;rw[hv]at hvx;simp only[wB,wh]at hs;obtain⟨rfl,rfl⟩:=hs;exact⟨_,w,G,⟨rfl,rfl⟩,.inl (by simp[execOp,ho,aU hvx,convert,aC h1,aC h2,Conv.intToInt]),Step.refl hst.inv,ba _ _⟩
 . cases hs
theorem F3 {s d:TypeId}{x:Operand}{x':Opd}(hg:GlOk w.heap G gl)(hst:StOk w.heap G st a.tmps)(ho:o.op= .convert s d x)
  (hx:aw x=some x') (h1:P.underlying s=some .string) (h2:P.underlying d=some .string)
  (hs:af gl cl st o.dst (.strc x')=some (v,us)):bX P w G st.hp (execOp a.eval o) v us:=by
 have hvx:=aG hg hst hx;simp only[af]at hs;split at hs
 . rename_i l hv;rw[hv]at hvx;simp only[wB,wh]at hs;obtain⟨rfl,rfl⟩:=hs;exact⟨_,w,G,⟨rfl,rfl⟩,.inl (by simp[execOp,ho,ee hvx,convert,aC h1,aC h2]),Step.refl hst.inv,gB _⟩
 . cases hs
theorem Gf {x:Operand}{i:Nat}(hg:GlOk w.heap G gl)(hst:StOk w.heap G st a.tmps)(ho:o.op= .extract x i)(hc:aF P im o=some m)
  (hs:af gl cl st o.dst m=some (v,us)):bX P w G st.hp (execOp a.eval o) v us:=by
 simp only[aF,ho,wC]at hc;obtain⟨x',hx,rfl⟩:=hc;have hvx:=aG hg hst hx;simp only[af]at hs;split at hs
 . rename_i l hv;rw[hv]at hvx;obtain⟨vs,hv1,hv2,hv3⟩:=hvx;simp only[wC]at hs;obtain⟨r,hr,hs⟩:=hs;simp only[wh]at hs;obtain⟨rfl,rfl⟩:=hs;obtain⟨hi,rfl⟩:=wY.1 hr;have hi':i<vs.size:=by omega
   refine⟨vs[i],w,G,⟨rfl,rfl⟩,.inl ?_,Step.refl hst.inv,?_⟩
   . simp[execOp,ho,hv1,Instr.extract,hi']
   . exact(RepT.of_known (hv3 i hi' hi).known).2 (hv3 i hi' hi)
 . cases hs
theorem CF {x:Operand}(hg:GlOk w.heap G gl)(hst:StOk w.heap G st a.tmps)(ho:o.op= .nilCheck x)(hc:aF P im o=some m)
  (hs:af gl cl st o.dst m=some (v,us)):bX P w G st.hp (execOp a.eval o) v us:=by
 simp only[aF,ho,wC]at hc;obtain⟨x',hx,rfl⟩:=hc;have hvx:=aG hg hst hx;simp only[af]at hs;split at hs
 . rename_i k p hv;rw[hv]at hvx;simp only[wB,wh]at hs;obtain⟨rfl,rfl⟩:=hs;have h:=hvx;rw[aq rfl]at h;cases h':a.eval x<;>rw[h']at h hvx<;>cases h
   . exact⟨_,w,G,⟨rfl,rfl⟩,.inl (by simp[execOp,ho,h']),Step.refl hst.inv,hvx⟩
   . exact⟨_,w,G,⟨rfl,rfl⟩,.inl (by simp[execOp,ho,h']),Step.refl hst.inv,hvx⟩
 . rename_i sh b hv;rw[hv]at hvx;simp only[wB,wh]at hs;obtain⟨rfl,rfl⟩:=hs;have h:=hvx;rw[aq rfl]at h;cases h':a.eval x<;>rw[h']at h hvx<;>cases h;exact⟨_,w,G,⟨rfl,rfl⟩,.inl (by simp[execOp,ho,h']),Step.refl hst.inv,hvx⟩
 . cases hs
theorem eh {H:aT}{v:Value}{full:Bool}{sh:Sh}{l:List AV}(h:RepS H G v (.lst full sh l)) :
  ∃b cap,v= .slice b l.length cap/\l.length<=cap/\(full=true->cap=l.length)/\(∀x∈l,aD sh x=true/\x.plain=true/\x.wf) /\
   (l=[]\/∃k off c e fz,b=some ⟨k,off,none⟩/\G.imm k/\H[k]? =some (.cells c e fz)/\RepC H G c off (AV.flats l)):=by
 cases h with
 | lstE _ _ a cap h=>exact⟨a,cap,rfl,by simp,fun hf=>by simpa using h hf,by simp,.inl rfl⟩
 | lst _ _ _ b off len cap c e fz hi hb hl hc hf hsh val hv hr =>subst hl;exact⟨_,cap,rfl,hc,hf,hsh,.inr ⟨b,off,c,e,fz,rfl,hi,hb,fun j hj=>⟨val j,hv j hj,hr j hj⟩⟩⟩
theorem oo {H:aT}{full:Bool}{sh:Sh}{l:List AV}{b:Option Addr}{cap:Nat}(h1:l.length<=cap)(h2:full=true->cap=l.length)
  (h3:∀x∈l,aD sh x=true/\x.plain=true/\x.wf)
  (h4:l=[]\/∃k off c e fz,b=some ⟨k,off,none⟩/\G.imm k/\H[k]? =some (.cells c e fz)/\RepC H G c off (AV.flats l)) :
  RepS H G (.slice b l.length cap) (.lst full sh l):=by
 rcases h4 with rfl|⟨k,off,c,e,fz,rfl,h5,h6,h7⟩
 . exact .lstE _ _ _ _ fun hf=>by simpa using h2 hf
 . obtain⟨val,hv,hr⟩:=ic h7;exact .lst full sh l k off _ cap c e fz h5 h6 rfl h1 h2 h3 val hv hr
theorem RU {H:aT}{tmps:Array Value}{k:Nat}{sh:Sh}{els:List AV}(hst:StOk H G st tmps)(hk:st.hp.get k=some (.grow sh els)):∀b c X,G.reg k≠some (.nst b c X):=hst.inv.noN hk trivial
theorem Nn {H:aT}{tmps:Array Value}{k:Nat}{sh:Sh}{x:AV}(hst:StOk H G st tmps)(hk:st.hp.get k=some (.fix sh x)):∀b c X,G.reg k≠some (.nst b c X):=hst.inv.noN hk trivial
theorem Pj {H:aT}{hp:Hp}{k:Nat}{sh:Sh}{els:List AV}(inv:Inv H G hp)(hk:hp.get k=some (.grow sh els)):∀b c X,G.reg k≠some (.nst b c X):=inv.noN hk trivial
theorem Pl {H:aT}{hp:Hp}{k:Nat}{sh:Sh}{x:AV}(inv:Inv H G hp)(hk:hp.get k=some (.fix sh x)):∀b c X,G.reg k≠some (.nst b c X):=inv.noN hk trivial
theorem Nl {k b':Nat}{r:Sh}(hk:G.reg k=some (.blk b' r)):∀b c X,G.reg k≠some (.nst b c X):=fun b c X h=>by rw[hk]at h;cases h
theorem U5 {k:Nat}(hk:G.reg k=some .nil):∀b c X,G.reg k≠some (.nst b c X):=fun b c X h=>by rw[hk]at h;cases h
theorem bF {H:aT}{v:Value}{k:Nat}{p:List Nat}{off len:Nat}(h:RepS H G v (.sl k p off len))
  (hN:∀b c X,G.reg k≠some (.nst b c X):=by first|exact RU (by assumption) (by assumption)|exact Nn (by assumption) (by assumption)|exact Pj (by assumption) (by assumption)|exact Pl (by assumption) (by assumption)|exact Nl (by assumption)|exact U5 (by assumption)) :
  (∃a,p=[]/\off=0/\len=0/\v= .slice a 0 0/\G.reg k=some .nil) \/
  ∃b root m e o x,G.reg k=some (.blk b root)/\root.sub p=some (.ar m e)/\root.off p=some o/\off+len<=m/\v= .slice (some ⟨b,x,none⟩) len (m-off) /\
   (off<m->x=o+off*e.size):=by
 cases h with
 | sl _ _ _ _ b root m e o hr hs ho hle=>exact .inr ⟨b,root,m,e,o,_,hr,hs,ho,hle,rfl,fun _=>rfl⟩
 | slZ _ _ _ b x root m e hr hs ho =>subst ho;obtain⟨o,ho⟩:=mV hs;exact .inr ⟨b,root,off,e,o,x,hr,hs,ho,by omega,by simp,fun h=>absurd h (Nat.lt_irrefl _)⟩
 | slNil _ a hr=>exact .inl ⟨a,rfl,rfl,rfl,rfl,hr⟩
 | slN _ n b cap X hr hle hn=>exact absurd hr (hN _ _ _)
theorem qi {H:aT}{v:Value}{k:Nat}{p:List Nat}{off len:Nat}(h:RepS H G v (.sl k p off len)) :
  (∃a,len=0/\v= .slice a 0 0)\/∃b x c,v= .slice (some ⟨b,x,none⟩) len c/\len<=c:=by
 cases h with
 | sl _ _ _ _ b root m e o hr hs ho hle=>exact .inr ⟨_,_,_,rfl,by omega⟩
 | slZ _ _ _ b x root m e hr hs ho=>exact .inr ⟨_,_,_,rfl,w9 _⟩
 | slNil _ a hr=>exact .inl ⟨a,rfl,rfl⟩
 | slN _ n b cap X hr hle hn=>exact .inr ⟨_,_,_,rfl,hle⟩
theorem qW {H:aT}{v:Value}{sh:Sh}{b:AV}(h:RepS H G v (.cp sh b)) :
  ∃k off c e fz,v= .pointer (some ⟨k,off,none⟩)/\G.imm k/\H[k]? =some (.cells c e fz)/\RepC H G c off b.flat/\aD sh b=true/\b.plain=true/\b.wf:=by
 cases h with
 | cp _ _ k off c e fz hi hb hsh val hv hr=>exact⟨k,off,c,e,fz,rfl,hi,hb,fun j hj=>⟨val j,hv j hj,hr j hj⟩,hsh⟩
theorem oN {H:aT}{sh:Sh}{b:AV}{k off:Nat}{c:Array Value}{e:TypeId}{fz:Nat×Nat}(hi:G.imm k)(hb:H[k]? =some (.cells c e fz))(hc:RepC H G c off b.flat)
  (hsh:aD sh b=true) (hp:b.plain=true) (hw:b.wf):RepS H G (.pointer (some ⟨k,off,none⟩)) (.cp sh b) :=
 let ⟨val,hv,hr⟩:=ic hc
 .cp sh b k off c e fz hi hb ⟨hsh,hp,hw⟩ val hv hr
theorem je {H:aT}{v:Value}{k:Nat}{p:List Nat}(h:RepS H G v (.ptr k p))
  (hN:∀b c X,G.reg k≠some (.nst b c X):=by first|exact RU (by assumption) (by assumption)|exact Nn (by assumption) (by assumption)|exact Pj (by assumption) (by assumption)|exact Pl (by assumption) (by assumption)|exact Nl (by assumption)|exact U5 (by assumption)) :
  ∃b root off,v= .pointer (some ⟨b,off,none⟩)/\G.reg k=some (.blk b root)/\root.off p=some off:=by
 cases h with
 | ptr _ _ b root off hr ho=>exact⟨b,root,off,rfl,hr,ho⟩
 | ptrN _ i b cap X hr hi=>exact absurd hr (hN _ _ _)
theorem Ih {H:aT}{v:Value}{k:Nat}{p:List Nat}{off n:Nat}(h:RepS H G v (.arp k p off n)) :
  ∃b root m e o,v= .pointer (some ⟨b,o+off*e.size,none⟩)/\G.reg k=some (.blk b root)/\root.sub p=some (.ar m e)/\root.off p=some o/\off+n<=m:=by
 cases h with
 | arp _ _ _ _ b root m e o hr hs ho hle=>exact⟨b,root,m,e,o,rfl,hr,hs,ho,hle⟩
end
section
variable {im :Im} {P:Program} {w:World} {H:aT} {G:Gh} {gl:Gl} {cl:Cl} {st:St} {a:Act} {o:Oper} {m:MOp} {v:AV} {us:Hp}
theorem fp {n:Nat}{l:List AV}(h:∀x∈l,x.flat.length=n)(off cnt:Nat)(hle:off+cnt<=l.length) :
  AV.flats l=AV.flats (l.take off)++AV.flats (sub l off cnt)++AV.flats (l.drop (off+cnt))/\(AV.flats (l.take off)).length=off*n/\(AV.flats (sub l off cnt)).length=cnt*n:=by
 have e:l=l.take off++sub l off cnt++l.drop (off+cnt):=by unfold sub;rw[wW,<-List.drop_drop,w3,w3]
 refine⟨?_,?_,?_⟩
 . conv=>lhs;rw[e]
   rw[AV.flats_append,AV.flats_append]
 . rw[bj _ (fun x hx=>h x (w1 hx))];rw[w6,wg (by omega)]
 . unfold sub;rw[bj _ (fun x hx=>h x (w5 (w1 hx))),w6,List.length_drop,wg (by omega)]
theorem lU {hp:Hp}{k:Nat}{p:List Nat}{sh s root:Sh}{b off:Nat}{x y:AV}(inv:Inv H G hp)(hk:hp.get k=some (.fix sh x))
  (hr:G.reg k=some (.blk b root)) (ho:root.off p=some off) (hs:sh.sub p=some s) (hn:x.nav p=some y) :
  root=sh/\aD s y=true/\y.wf/\(x.plain=true->y.plain=true)/\∃c e fz,H[b]? =some (.cells c e fz)/\free c fz/\c.size=sh.size/\RepC H G c off y.flat:=by
 obtain⟨b',c,e,fz,hr',hb,hsz,hf,hsh,hw,hc⟩:=inv.obs k _ hk;rw[hr]at hr';simp only[wB,Rg.blk.injEq]at hr';obtain⟨rfl,rfl⟩:=hr';obtain⟨y',o',pre,post,hn',ho',hy,hfl,hl,hwf,hpl,_⟩:=fj p root x s hsh hs;rw[hn]at hn';cases hn';rw[ho]at ho';cases ho';refine⟨rfl,hy,hwf hw,fun hp=>hpl hp hw,c,e,fz,hb,hf,hsz,?_⟩;have:=hc.part hfl
 rwa [hl,w8]at this
theorem B9 {hp:Hp}{k i:Nat}{q:List Nat}{sh s root:Sh}{b off:Nat}{els:List AV}{z y:AV}(inv:Inv H G hp)(hk:hp.get k=some (.grow sh els))
  (hr:G.reg k=some (.blk b root)) (ho:root.off (i::q)=some off) (hs:sh.sub q=some s) (hz:els[i]? =some z) (hn:z.nav q=some y) :
  aD s y=true/\y.wf/\y.plain=true/\∃c e fz,H[b]? =some (.cells c e fz)/\free c fz/\RepC H G c off y.flat:=by
 rcases inv.obs k _ hk with ⟨h1,_⟩|⟨b',cap,c,e,fz,hr',hle,hb,hsz,hf,hsh,hc⟩
 . subst h1;simp at hz
 rw[hr]at hr';simp only[wB,Rg.blk.injEq]at hr';obtain⟨rfl,rfl⟩:=hr';have hm:=wZ hz;obtain⟨hz1,hz2,hz3⟩:=hsh z hm;obtain⟨y',o',pre,post,hn',ho',hy,hfl,hl,hwf,hpl,_⟩:=fj q sh z s hz1 hs;rw[hn]at hn';cases hn';have hi:i<els.length:=(wY.1 hz).1;simp only[Sh.off,show i<cap by omega,if_true,ho',wE,wB]at ho;subst ho;obtain⟨pre',post',h1,h2,_⟩:=cr (fun x hx=>aB sh x (hsh x hx).1) hz;refine⟨hy,hwf hz3,hpl hz2 hz3,c,e,fz,hb,hf.free,?_⟩;have:=hc.part (pre:=pre'++pre) (x:=y.flat) (post:=post++post') (by rw[h1,hfl];simp[wW]);simp only[w0,h2,hl,w8]at this;exact this
theorem Ay {ag:Bool}{n:Nat}{x':Opd}{vx:Value}{d:Option Nat}(inv:Inv H G st.hp)(hvx:RepT H G vx (Opd.val gl st.fr x'))(hs:af gl cl st d (.load ag n x')=some (v,us)) :
  ∃(b off:Nat) (c:Array Value) (e:TypeId) (fz:Nat×Nat),vx= .pointer (some ⟨b,off,none⟩)/\us=[]/\H[b]? =some (.cells c e fz) /\
   RepC H G c off v.flat/\v.known=true/\v.wf/\v.isAgg=ag/\v.flat.length=n:=by
 simp only[af]at hs
 cases hv:Opd.val gl st.fr x' with
 | ptr k p =>
   rw[hv,aq rfl]at hvx;have hN:∀b c X,G.reg k≠some (.nst b c X):=fun b c X hr=>by rcases inv.isN hr with ⟨els,he⟩|he<;>simp[hv,he]at hs
   obtain⟨b,root,off,hev,hr,hof⟩:=je hvx hN;simp only[hv]at hs
   cases hk:st.hp.get k with
   | none=>simp[hk]at hs
   | some ob =>
     cases ob with
     | dead=>simp[hk]at hs
     | lp _ _ _=>simp[hk]at hs
     | mp _ _=>simp[hk]at hs
     | nest _=>simp[hk]at hs
     | fix sh z =>
       simp only[hk]at hs;split at hs
       . rename_i s y hsub hnav;split at hs
         . rename_i hcond;simp only[wB,wh]at hs;obtain⟨rfl,rfl⟩:=hs;obtain⟨_,hy,hw,_,c,e,fz,hb,_,_,hrc⟩:=lU inv hk hr hof hsub hnav;exact⟨b,off,c,e,fz,hev,rfl,hb,hrc,bV hy,hw,hcond.2,by rw[aB s _ hy,hcond.1]⟩
         . cases hs
       . cases hs
     | grow sh els =>
       cases p with
       | nil=>simp[hk]at hs
       | cons i q =>
         simp only[hk]at hs;split at hs
         . rename_i s y hsub hnav;split at hs
           . rename_i hcond;simp only[wB,wh]at hs;obtain⟨rfl,rfl⟩:=hs;simp only[wD]at hnav;obtain⟨z,hz,hnav⟩:=hnav;obtain⟨hy,hw,_,c,e,fz,hb,_,hrc⟩:=B9 inv hk hr hof hsub hz hnav;exact⟨b,off,c,e,fz,hev,rfl,hb,hrc,bV hy,hw,hcond.2,by rw[aB s _ hy,hcond.1]⟩
           . cases hs
         . cases hs
 | cp sh b0 =>
   rw[hv,aq rfl]at hvx;simp only[hv]at hs;split at hs
   . rename_i hcond;simp only[wB,wh]at hs;obtain⟨rfl,rfl⟩:=hs;obtain⟨b,off,c,e,fz,hev,_,hb,hrc,h1,_,h3⟩:=qW hvx;exact⟨b,off,c,e,fz,hev,rfl,hb,hrc,bV h1,h3,hcond.2,by rw[aB sh _ h1,hcond.1]⟩
   . cases hs
 | arp k p off cnt =>
   rw[hv,aq rfl]at hvx;simp only[hv]at hs
   cases hk:st.hp.get k with
   | none=>simp[hk]at hs
   | some ob =>
     cases ob with
     | dead=>simp[hk]at hs
     | lp _ _ _=>simp[hk]at hs
     | mp _ _=>simp[hk]at hs
     | nest _=>simp[hk]at hs
     | grow sh els=>simp[hk]at hs
     | fix sh z =>
       simp only[hk]at hs;split at hs
       . rename_i n' e' l hsub hnav;split at hs
         . rename_i hcond;simp only[wB,wh]at hs;obtain⟨rfl,rfl⟩:=hs;obtain⟨b,root,m',e,o',hev,hr,hsub',hof,_⟩:=Ih hvx;obtain⟨rfl,hy,hw,_,c,e1,fz,hb,_,_,hrc⟩:=lU inv hk hr hof hsub hnav;rw[hsub]at hsub';simp only[wB,Sh.ar.injEq]at hsub';obtain⟨rfl,rfl⟩:=hsub';rw[bS]at hy;simp only[wG,beq_iff_eq,wU]at hy;obtain⟨f1,f2,f3⟩:=fp (n:=e'.size) (l:=l) (fun q hq=>aB e' q (hy.2 q hq)) off cnt hcond.2.2;refine⟨b,o'+off*e'.size,c,e1,fz,hev,rfl,hb,?_,rfl,?_,?_,?_⟩
           . have:=hrc.part (by rw[AV.flat];exact f1)
             rwa [f2]at this
           . simp only[AV.wf,AV.wfp_iff]at hw ⊢;exact fun q hq=>hw q (w5 (w1 hq))
           . rw[hcond.1];rfl
           . simp only[AV.flat];rw[f3,hcond.2.1]
         . cases hs
       . cases hs
 | _=>simp[hv]at hs
theorem Gd {t:TypeId}{x:Operand}(hg:GlOk w.heap G gl)(hst:StOk w.heap G st a.tmps)(ho:o.op= .load t x)(hc:aF P im o=some m)(hmd:(oj im o.dst).isImp=false)
  (hs:af gl cl st o.dst m=some (v,us)):bX P w G st.hp (execOp a.eval o) v us:=by
 simp only[aF,ho,wD,wC]at hc;simp only[hmd,wH,if_false,wB]at hc;obtain⟨sT,hsT,x',hx,rfl⟩:=hc;have hvx:=aG hg hst hx;obtain⟨b,off,c,e,fz,hev,rfl,hb,hrc,hk,hw,hag,hn⟩:=Ay hst.inv hvx hs;obtain⟨val,hval,hrv⟩:=ic hrc;refine⟨_,w,G,⟨rfl,rfl⟩,.inl ?_,Step.refl hst.inv,(RepT.of_known hk).2 (po hk hw hrv)⟩;simp[execOp,ho,hev,Instr.loadAt,Instr.sureAddr,kK hsT hag hn hb hval hk]
theorem nY {c:Array Value}{off:Nat}{vs:List Value}{l pre old new post:List AV}(h:RepC H G c 0 l)(hl:l=pre++old++post)(hv:RepL H G vs new)
  (hn:new.length=old.length) (hp:pre.length=off) (hle:off+vs.length<=c.size):RepC H G (aY c off vs) 0 (pre++new++post):=by
 subst hl;have hvl:=hv.len;intro j hj;simp only[w0]at hj;simp only[w8];rw[gM vs off c j hle];by_cases h1:j<off
 . rw[if_neg (by omega)];obtain⟨x,hx,hr⟩:=h j (by simp;omega);refine⟨x,by simpa using hx,?_⟩;have e1:(pre++old++post)[j]'(by simp;omega)=pre[j]:=by rw[wS (by simp;omega),wS (by omega)]
   have e2:(pre++new++post)[j]'(by simp;omega)=pre[j]:=by rw[wS (by simp;omega),wS (by omega)]
   rw[e2];rwa [e1]at hr
 . by_cases h2:j<off+vs.length
   . rw[if_pos ⟨by omega,h2⟩];have hj':j-off<vs.length:=by omega
     refine⟨vs[j-off],by simp[hj'],?_⟩;have e2:(pre++new++post)[j]'(by simp;omega)=new[j-off]'(by omega):=by
      rw[wS (by simp;omega),wX (by omega)]
      congr 1;omega
     rw[e2];exact hv.get (j-off) hj' (by omega)
   . rw[if_neg (by omega)];obtain⟨x,hx,hr⟩:=h j (by simp;omega);refine⟨x,by simpa using hx,?_⟩;have e1:(pre++old++post)[j]'(by simp;omega)=post[j-(pre.length+old.length)]'(by omega):=by rw[wX (by simp;omega)];simp
     have e2:(pre++new++post)[j]'(by simp;omega)=post[j-(pre.length+old.length)]'(by omega):=by rw[wX (by simp;omega)];simp[hn]
     rw[e2];rwa [e1]at hr
theorem bu {b b':Nat}{x:Obj}(h:b'≠b):(H.setIfInBounds b x)[b']? =H[b']? :=by rw[Array.getElem?_setIfInBounds_ne (Ne.symm h)]
theorem bP {b:Nat}{x y:Obj}(h:H[b]? =some y):(H.setIfInBounds b x)[b]? =some x:=by obtain⟨hlt,_⟩:=wj.1 h;exact Array.getElem?_setIfInBounds_self_of_lt hlt
theorem CB {t:TypeId}{q x:Operand}(hg:GlOk w.heap G gl)(hst:StOk w.heap G st a.tmps)(ho:o.op= .store t q x)(hc:aF P im o=some m)
  (hs:af gl cl st o.dst m=some (v,us)):bX P w G st.hp (execOp a.eval o) v us:=by
 simp only[aF,ho,wD,wC]at hc;obtain⟨sT,hsT,q',hq,x',hx,rfl⟩:=hc;have hvq:=aG hg hst hq;have hvx:=aG hg hst hx;simp only[af]at hs
 cases hv:Opd.val gl st.fr q' with
 | ptr k p =>
   rw[hv,aq rfl]at hvq;have hN:∀b c X,G.reg k≠some (.nst b c X):=fun b c X hr=>by rcases hst.inv.isN hr with ⟨els,he⟩|he<;>simp[hv,he]at hs
   obtain⟨b,root,off,hev,hr,hof⟩:=je hvq hN;simp only[hv]at hs
   cases hk:st.hp.get k with
   | none=>simp[hk]at hs
   | some ob =>
     cases ob with
     | dead=>simp[hk]at hs
     | lp _ _ _=>simp[hk]at hs
     | mp _ _=>simp[hk]at hs
     | nest _=>simp[hk]at hs
     | fix sh z =>
       simp only[hk]at hs;split at hs
       . rename_i s hsub;split at hs
         . rename_i hcond;obtain⟨hn,hsx⟩:=hcond;simp only[wC,wh]at hs;obtain⟨z',hz',rfl,rfl⟩:=hs;have hkn:=bV hsx;rw[RepT.of_known hkn]at hvx;obtain⟨vs,hvs,hrl,hpk,h1⟩:=hvx.cells;obtain⟨b',c,e,fz,hr',hb,hsz,hf,hsh,hw,hrc⟩:=hst.inv.obs k _ hk;rw[hr]at hr';simp only[wB,Rg.blk.injEq]at hr';obtain⟨rfl,rfl⟩:=hr';obtain⟨y,o',pre,post,hn',ho',hy,hfl,hl,hwf,hpl,hset⟩:=fj p root z s hsh hsub;rw[hof]at ho';cases ho';obtain⟨z'',hz'',hsh',hfl',hwf',_⟩:=hset _ hsx;rw[hz']at hz'';cases hz'';have hvl:vs.length=s.size:=by rw[hrl.len,aB s _ hsx]
           have hyl:=aB s y hy;have hcl:z.flat.length=root.size:=aB root z hsh;have hle:off+vs.length<=c.size:=by rw[hsz,<-hcl,hfl];simp[hl,hvl,hyl]
           refine⟨undef,{w with heap:=w.heap.setIfInBounds b (.cells (aY c off vs) e fz)},G,⟨rfl,rfl⟩,.inr ⟨?_,rfl⟩,?_,trivial⟩
           . simp only[execOp,ho,hev,Instr.storeAt,Instr.sureAddr,wM,wN,wO];rw[nT hsT hvs (by rw[hvl,hn]) hb hf hle h1];rfl
           . refine cR hst.inv hk _ _ (by simp) (fun b' hb'=>bu fun e=>hb' ⟨root,.of (e▸hr),⟨_,hk,by simp⟩⟩) (fun _=>by simp) fun le=> ?_
             refine⟨b,_,e,fz,hr,bP hb,by simp[aX,hsz],?_,hsh',hwf' hw hvx.wf,?_⟩
             . unfold free at hf ⊢;rw[aX];exact hf
             . rw[hfl'];exact(nY (hrc) hfl hrl (by rw[aB s _ hsx,hyl]) hl hle).mono le
         . cases hs
       . cases hs
     | grow sh els =>
       cases p with
       | nil=>simp[hk]at hs
       | cons i q2 =>
         simp only[hk]at hs;split at hs
         . rename_i s z hsub hz;split at hs
           . rename_i hcond;obtain⟨hn,hsx,hpx⟩:=hcond;simp only[wC,wh]at hs;obtain⟨z',hz',rfl,rfl⟩:=hs;have hkn:=bV hsx;rw[RepT.of_known hkn]at hvx;obtain⟨vs,hvs,hrl,hpk,h1⟩:=hvx.cells;rcases hst.inv.obs k _ hk with ⟨h0,_⟩|⟨b',cap,c,e,fz,hr',hle0,hb,hsz,hf,hsh,hrc⟩
             . subst h0;simp at hz
             rw[hr]at hr';simp only[wB,Rg.blk.injEq]at hr';obtain⟨rfl,rfl⟩:=hr';obtain⟨hz1,hz2,hz3⟩:=hsh z (wZ hz);obtain⟨y,o',pre,post,hn',ho',hy,hfl,hl,hwf,hpl,hset⟩:=fj q2 sh z s hz1 hsub;have hi:i<els.length:=(wY.1 hz).1;simp only[Sh.off,show i<cap by omega,if_true,ho',wE,wB]at hof;subst hof;obtain⟨pre',post',g1,g2,g3⟩:=cr (fun x hx=>aB sh x (hsh x hx).1) hz;obtain⟨z'',hz'',hsh',hfl',hwf',hpl'⟩:=hset _ hsx;rw[hz']at hz'';cases hz'';have hvl:vs.length=s.size:=by rw[hrl.len,aB s _ hsx]
             have hyl:=aB s y hy;have hel:(AV.flats els).length=els.length*sh.size:=bj els (fun x hx=>aB sh x (hsh x hx).1);have hle:i*sh.size+o'+vs.length<=c.size:=by
              have h2:(AV.flats els).length<=c.size:=by rw[hel,hsz];exact Nat.mul_le_mul_right _ hle0
              rw[g1,hfl]at h2;simp[g2,hl,hyl]at h2;omega
             refine⟨undef,{w with heap:=w.heap.setIfInBounds b (.cells (aY c (i*sh.size+o') vs) e fz)},G,⟨rfl,rfl⟩,.inr ⟨?_,rfl⟩,?_,trivial⟩
             . simp only[execOp,ho,hev,Instr.storeAt,Instr.sureAddr,wM,wN,wO];rw[nT hsT hvs (by rw[hvl,hn]) hb hf.free hle h1];rfl
             . refine cR hst.inv hk _ _ (by simp) (fun b' hb'=>bu fun e=>hb' ⟨_,.of (e▸hr),⟨_,hk,by simp⟩⟩) (fun _=>by simp) fun le=> ?_
               refine .inr ⟨b,cap,_,e,fz,hr,by simpa using hle0,bP hb,by simp[aX,hsz],?_,?_,?_⟩
               . exact hf.put (aX ..)
               . intro x hx;rcases w2 hx with hx|rfl
                 . exact hsh x hx
                 . exact⟨hsh',hpl' hz2 hz3 hpx,hwf' hz3 hvx.wf⟩
               . rw[g3 z',hfl']
                 have:=nY (old:=y.flat) (pre:=pre'++pre) (post:=post++post') hrc (by rw[g1,hfl];simp[wW]) hrl (by rw[aB s _ hsx,hyl])
                  (by simp[g2,hl]) hle
                 have:=this.mono le;simpa[wW]using this
           . cases hs
         . cases hs
 | _=>simp[hv]at hs
mutual
theorem uq :∀(sh:Sh) (vs:List Value) (x:AV) (r:List Value),zd sh vs=some (x,r) ->
  ∃us,vs=us++r/\aD sh x=true/\x.plain=true/\x.wf/\∀(H:aT) (G:Gh),RepL H G us x.flat
 | .sc,[],x,r,h=>by simp[zd]at h
 | .sc,v::vs,x,r,h=>by
   simp only[zd,wC,wh]at h;obtain⟨y,hy,rfl,rfl⟩:=h;obtain⟨h1,h2,_⟩:=od (H:= #[]) (G:=⟨fun _=>False,fun _=>none,fun _=>none⟩) hy;refine⟨[v],rfl,by simpa[aD]using h1,h2,AV.wf_scalar h1,fun H G=> ?_⟩;obtain⟨_,_,h3⟩:=od (H:=H) (G:=G) hy;rw[AV.flat_scalar h1];exact⟨rfl,fun j a b=>by
    have:j=0:=by simp at a;omega
    subst this;simpa using h3⟩
 | .st fs,vs,x,r,h=>by simp only[zd,wC,wh]at h;obtain⟨⟨l,r'⟩,hl,rfl,rfl⟩:=h;obtain⟨us,h1,h2,h3,h4⟩:=xu fs vs l r' hl;exact⟨us,h1,by simpa[fJ]using h2,rfl,by simpa[AV.wf]using h3,fun H G=>by simpa[AV.flat]using h4 H G⟩
 | .ar n e,vs,x,r,h=>by
   simp only[zd,wC,wh]at h;obtain⟨⟨l,r'⟩,hl,rfl,rfl⟩:=h;have:∀(n:Nat) (vs:List Value) (l:List AV) (r:List Value),Bz n (zd e) vs=some (l,r) ->
     ∃us,vs=us++r/\l.length=n/\(∀x∈l,aD e x=true)/\AV.wfp l/\∀(H:aT) (G:Gh),RepL H G us (AV.flats l):=by
    intro n
    induction n with
    | zero =>intro vs l r h;simp only[Bz,wB,wh]at h;obtain⟨rfl,rfl⟩:=h;exact⟨[],rfl,rfl,by simp,trivial,fun H G=>⟨rfl,fun j a=>by simp at a⟩⟩
    | succ n ih =>
      intro vs l r h;simp only[Bz,wD,wC,wh]at h;obtain⟨⟨y,r1⟩,hy,⟨l2,r2⟩,hl2,rfl,rfl⟩:=h;obtain⟨u1,e1,g1,g2,g3,g4⟩:=uq e vs y r1 hy;obtain⟨u2,e2,k1,k2,k3,k4⟩:=ih r1 l2 r2 hl2;refine⟨u1++u2,by rw[e1,e2,wW],by simp[k1],?_,⟨g2,g3,k3⟩,fun H G=>fi (g4 H G) (k4 H G)⟩;intro x hx;rcases List.mem_cons.1 hx with rfl|hx
      . exact g1
      . exact k2 x hx
   obtain⟨us,h1,h2,h3,h4,h5⟩:=this n vs l r' hl;exact⟨us,h1,by simp[bS,h2,wU];exact h3,rfl,by simpa[AV.wf]using h4,fun H G=>by simpa[AV.flat]using h5 H G⟩
theorem xu :∀(fs:List Sh) (vs:List Value) (l:List AV) (r:List Value),By fs vs=some (l,r) ->
  ∃us,vs=us++r/\bh fs l=true/\AV.wfp l/\∀(H:aT) (G:Gh),RepL H G us (AV.flats l)
 | [],vs,l,r,h=>by simp only[By,wB,wh]at h;obtain⟨rfl,rfl⟩:=h;exact⟨[],rfl,rfl,trivial,fun H G=>⟨rfl,fun j a=>by simp at a⟩⟩
 | s::fs,vs,l,r,h=>by simp only[By,wD,wC,wh]at h;obtain⟨⟨y,r1⟩,hy,⟨l2,r2⟩,hl2,rfl,rfl⟩:=h;obtain⟨u1,e1,g1,g2,g3,g4⟩:=uq s vs y r1 hy;obtain⟨u2,e2,k1,k2,k3⟩:=xu fs r1 l2 r2 hl2;exact⟨u1++u2,by rw[e1,e2,wW],by simp[bh,g1,k1],⟨g2,g3,k2⟩,fun H G=>fi (g4 H G) (k3 H G)⟩
end
theorem bD {vs:List Value}{l:List AV}(h:RepL H G vs l):RepC H G vs.toArray 0 l:=fun j hj =>
 ⟨vs[j]'(by rw[h.len];exact hj),by simp[h.len,hj],h.get j (by rw[h.len];exact hj) hj⟩
theorem bJ {t:TypeId}{sh:Sh}{z:AV}(h:dM P t=some (sh,z)) :
  dh P SF t=some sh/\∃zv:Value,(∀w,(zeroValue t).run P w= .ok zv w)/\aD sh z=true/\z.plain=true/\z.wf/\∀(H:aT) (G:Gh),RepL H G zv.cells.toList z.flat:=by
 simp only[dM,wD]at h;obtain⟨sh',hsh,h⟩:=h;split at h
 . rename_i i hi;split at h
   . rename_i zv hz;split at h
     . rename_i x hx;simp only[wB,wh]at h;obtain⟨rfl,rfl⟩:=h;obtain⟨us,e1,h1,h2,h3,h4⟩:=uq _ _ _ _ hx;refine⟨hsh,zv,fun w=>by simp[zeroValue,fu hi,hz],h1,h2,h3,fun H G=> ?_⟩;rw[e1,List.append_nil];exact h4 H G
     . cases h
   . cases h
 . cases h
theorem rJ {hp:Hp}(inv:Inv H G hp){k:Nat}(hk:hp.get k=none){sh:Sh}{x:AV}{vs:List Value}(e:TypeId)(hsh:aD sh x=true)(hw:x.wf)(hv:RepL H G vs x.flat) :
  Step H G hp (H.push (.cells vs.toArray e)) (G.with k (.blk H.size sh)) ((k,.fix sh x)::hp):=by
 refine kE inv hk _ sh _ fun le=> ?_
 refine⟨H.size,vs.toArray,e,(0,0),by simp[Gh.with],by simp,?_,.inl rfl,hsh,hw,(bD hv).mono le⟩;simp[hv.len,aB sh x hsh]
theorem D5 {k:Nat}{sh:Sh}{H':aT}:RepT H' (G.with k (.blk H.size sh)) (.pointer (some ⟨H.size,0,none⟩)) (.ptr k []) :=
 (aq rfl).2 (.ptr k [] H.size sh 0 (by simp[Gh.with]) (by cases sh<;>rfl))
theorem CU {t:TypeId}(hst:StOk w.heap G st a.tmps)(ho:o.op= .alloc t)(hc:aF P im o=some m)
  (hs:af gl cl st o.dst m=some (v,us)):bX P w G st.hp (execOp a.eval o) v us:=by
 simp only[aF,ho,wC]at hc;obtain⟨⟨sh,z⟩,hz,rfl⟩:=hc;obtain⟨_,zv,hzv,hsh,_,hw,hrl⟩:=bJ hz;simp only[af]at hs;split at hs
 . rename_i k hk;split at hs
   . rename_i hnone;simp only[wB,wh]at hs;obtain⟨rfl,rfl⟩:=hs;refine⟨_,{w with heap:=w.heap.push (.cells zv.cells t)},G.with k (.blk w.heap.size sh),⟨rfl,rfl⟩,.inl ?_,?_,D5⟩
     . simp[execOp,ho,Instr.alloc,hzv,newVar,newRow]
     . have:=rJ hst.inv (by simpa using hnone) t hsh hw (hrl w.heap G);simpa using this
   . cases hs
 . cases hs
theorem JY {t:TypeId}{x:Operand}(hg:GlOk w.heap G gl)(hst:StOk w.heap G st a.tmps)(ho:o.op= .box t x)(hc:aF P im o=some m)
  (hs:af gl cl st o.dst m=some (v,us)):bX P w G st.hp (execOp a.eval o) v us:=by
 simp only[aF,ho,wD,wC]at hc;obtain⟨sh,hsh,x',hx,rfl⟩:=hc;have hvx:=aG hg hst hx;simp only[af]at hs;split at hs
 . rename_i k hk;split at hs
   . rename_i hcond;simp only[wG]at hcond;simp only[wB,wh]at hs;obtain⟨rfl,rfl⟩:=hs;rw[RepT.of_known (bV hcond.2)]at hvx;obtain⟨vs,hvs,hrl,_,_⟩:=hvx.cells;refine⟨_,{w with heap:=w.heap.push (.cells (a.eval x).cells t)},G.with k (.blk w.heap.size sh),⟨rfl,rfl⟩,.inl ?_,?_,D5⟩
     . simp[execOp,ho,Instr.box,newVar,newRow]
     . have:=rJ hst.inv (by simpa using hcond.1) t hcond.2 hvx.wf hrl;rw[<-hvs]at this;simpa using this
   . cases hs
 . cases hs
theorem J3 (vs:List Value):∀(off:Nat) (cells:Array Value),(vs.toArray.zipIdx.foldl (fun cs (c,j)=>cs.setIfInBounds (off+j) c) cells)=aY cells off vs:=by
 have gen:∀(vs:List Value) (i off:Nat) (cells:Array Value),(vs.zipIdx i).foldl (fun cs (q:Value×Nat)=>cs.setIfInBounds (off+q.2) q.1) cells=aY cells (off+i) vs:=by
  intro vs
  induction vs with
  | nil=>intro i off cells;rfl
  | cons v r ih=>intro i off cells;simp only[List.zipIdx_cons,List.foldl_cons,aY];rw[ih];rfl
 intro off cells;have:=gen vs 0 off cells;rw[wb]at this;rw[<-this,<-Array.foldl_toList,Array.toList_zipIdx]
theorem Ii {c:Array Value}{off:Nat}{vs:List Value}{pre old new post:List AV}(h:RepL H G c.toList (pre++old++post))(hv:RepL H G vs new)
  (hn:new.length=old.length) (hp:pre.length=off):RepL H G (aY c off vs).toList (pre++new++post):=by
 have hl:=h.len;have hvl:=hv.len;simp only[wk,w0]at hl;have hc:RepC H G c 0 (pre++old++post):=by simpa using bD h
 have:=nY hc rfl hv hn hp (by omega);refine⟨by simp only[wk,aX,w0];omega,fun j h1 h2=> ?_⟩;obtain⟨x,hx,hr⟩:=this j h2;simp only[w8]at hx;obtain⟨hlt,rfl⟩:=wj.1 hx;simpa using hr
theorem iz {sub:Nat->Option Sh}{place:Nat->Option (Nat×Nat)}(H:aT)(G:Gh)(I:List AV->Prop)
  (hI:∀(zs:List AV) (i:Nat) (s:Sh) (x:AV),I zs->sub i=some s->aD s x=true->I (zs.set i x)/\∃z,zs[i]? =some z/\aD s z=true /\
    ∃pre post off,place i=some (off,s.size)/\AV.flats zs=pre++z.flat++post/\pre.length=off/\AV.flats (zs.set i x)=pre++x.flat++post) :
  ∀(ps:List (Nat×AV)) (vs:List (Nat×Value)) (zs out:List AV) (cells:Array Value),I zs->RepL H G cells.toList (AV.flats zs) ->
   ps.length=vs.length->(∀(j:Nat) (h:j<ps.length) (h':j<vs.length),ps[j].1=vs[j].1/\RepT H G vs[j].2 ps[j].2) ->
   jg sub zs ps=some out->∃c',Instr.fill place cells vs=some c'/\RepL H G c'.toList (AV.flats out)/\I out/\out.length=zs.length /\
    (∀x∈out,x∈zs\/∃p∈ps,p.2=x/\∃v:Value,RepV H G v x)
 | [],[],zs,out,cells,hi,hr,_,_,h=>by simp only[jg,wB]at h;subst h;exact⟨cells,rfl,hr,hi,rfl,fun x hx=>.inl hx⟩
 | [],_::_,_,_,_,_,_,hl,_,_=>by simp at hl
 | _::_,[],_,_,_,_,_,hl,_,_=>by simp at hl
 | (i,x)::ps,(i',v)::vs,zs,out,cells,hi,hr,hl,hrep,h=>by
   obtain⟨e1,e2⟩:=hrep 0 (by simp) (by simp);simp only[List.getElem_cons_zero]at e1 e2;subst e1;simp only[jg]at h;split at h
   . rename_i s hs;split at h
     . rename_i hx;obtain⟨hi',z,hz,hzs,pre,post,off,hpl,g1,g2,g3⟩:=hI zs i s x hi hs hx;rw[RepT.of_known (bV hx)]at e2;obtain⟨us,hus,hrl,_,_⟩:=e2.cells;have hul:us.length=s.size:=by rw[hrl.len,aB s x hx]
       have hsz:v.cells.size=s.size:=by rw[<-hul,<-hus];simp
       have hle:off+s.size<=cells.size:=by have:=hr.len;rw[g1]at this;simp[aB s z hzs,g2]at this;omega
       obtain⟨c',hc',k1,k2,k3,k4⟩:=iz H G I hI ps vs (zs.set i x) out (aY cells off us) hi'
        (by rw[g3];exact Ii (by rw[<-g1];exact hr) hrl (by rw[aB s x hx,aB s z hzs]) g2)
        (by simpa using hl) (fun j a b=>hrep (j+1) (we a) (we b)) h
       refine⟨c',?_,k1,k2,by simpa using k3,fun y hy=> ?_⟩
       . simp only[Instr.fill,hpl,hsz];rw[if_neg (by simp;omega)];have:v.cells=us.toArray:=by rw[<-hus]
         rw[this,J3,hc']
       . rcases k4 y hy with hy|⟨p,hp,hpx⟩
         . rcases w2 hy with hy|rfl
           . exact .inl hy
           . exact .inr ⟨(i,y),by simp,rfl,v,e2⟩
         . exact .inr ⟨p,by simp[hp],hpx⟩
     . cases h
   . cases h
theorem fm {α β:Type}{f:α->Option β}:∀{l:List α} {r:List β},bw f l=some r->r.length=l.length/\∀(i:Nat) (x:α),l[i]? =some x->∃y,r[i]? =some y/\f x=some y
 | [],r,h=>by simp only[bw,wB]at h;subst h;simp
 | a::l,r,h=>by
   simp only[bw,wD,wC]at h;obtain⟨b,hb,r',hr,rfl⟩:=h;obtain⟨h1,h2⟩:=fm hr;refine⟨by simp[h1],fun i x hi=> ?_⟩
   cases i with
   | zero=>simp at hi;subst hi;exact⟨b,by simp,hb⟩
   | succ i=>simpa using h2 i x (by simpa using hi)
theorem dW {n:Nat}{t:TypeId}{sh:Sh}{fields:Array Field}(h:dh P n t=some sh)(hu:P.underlying t=some (.struct fields)) :
  ∃fs,sh= .st fs/\fields.size=fs.length/\∀(i:Nat) (f:Field),fields[i]? =some f ->
   ∃s,fs[i]? =some s/\f.offset=Sh.sizes (fs.take i)/\(P.info? f.type).map (·.size)=some s.size/\∃n',dh P n' f.type=some s:=by
 cases n with
 | zero=>simp[dh]at h
 | succ n =>
   simp only[dh,hu,wD]at h;obtain⟨l,hl,h⟩:=h;split at h
   . rename_i hc;simp only[wG,wU]at hc;cases h;obtain⟨h1,h2⟩:=fm hl;refine⟨l,rfl,by simpa using h1.symm,fun i f hf=> ?_⟩;obtain⟨s,hs,hfs⟩:=h2 i f (by simpa using hf)
     have hm:=hc.1 (f,i) (by
      rw[List.mem_iff_getElem?];refine⟨i,?_⟩;simp[List.getElem?_zipIdx,hf])
     simp only[beq_iff_eq]at hm;exact⟨s,hs,hm.1,by rw[<-hm.2,hs];rfl,n,hfs⟩
   . cases h
theorem fc {n k:Nat}{t e:TypeId}{sh:Sh}(h:dh P n t=some sh)(hu:P.underlying t=some (.array k e)) :
  ∃s,sh= .ar k s/\(P.info? e).map (·.size)=some s.size/\∃n',dh P n' e=some s:=by
 cases n with
 | zero=>simp[dh]at h
 | succ n =>
   simp only[dh,hu,wD]at h;obtain⟨s,hs,h⟩:=h;split at h
   . rename_i hc;simp only[wG,beq_iff_eq]at hc;cases h;exact⟨s,rfl,hc.1,n,hs⟩
   . cases h
theorem mG {α β:Type}(f:α->Sem β)(g:α->β):∀(l:List α),(∀x∈l,(f x).run P w= .ok (g x) w)->(l.mapM f).run P w= .ok (l.map g) w
 | [],_=>by simp
 | x::l,h=>by rw[List.mapM_cons];simp only[wM,h x (by simp),wO,mG f g l (fun y hy=>h y (by simp[hy])),wN,List.map_cons]
theorem HN {α β:Type}(f:α->Sem β)(g:α->β)(xs:Array α)(h:∀x∈xs,(f x).run P w= .ok (g x) w):(xs.mapM f).run P w= .ok (xs.map g) w:=by
 rw[Array.mapM_eq_mapM_toList,Sem.run_map,mG f g xs.toList (fun x hx=>h x (by simpa using hx))];simp only[wO]
 congr 1
 apply Array.ext';simp
theorem py {ps:Array (Nat×Operand)}{ps':List (Nat×Opd)}(hg:GlOk w.heap G gl)(hst:StOk w.heap G st a.tmps)
  (h:bw (fun p=>(aw p.2).map fun x=>(p.1,x)) ps.toList=some ps') :
  (ps'.map fun p=>(p.1,Opd.val gl st.fr p.2)).length=(ps.map fun(q:Nat×Operand)=>(q.1,a.eval q.2)).toList.length /\
  ∀(j:Nat) (h:j<(ps'.map fun p=>(p.1,Opd.val gl st.fr p.2)).length) (h':j<(ps.map fun(q:Nat×Operand)=>(q.1,a.eval q.2)).toList.length),
   (ps'.map fun p=>(p.1,Opd.val gl st.fr p.2))[j].1=(ps.map fun(q:Nat×Operand)=>(q.1,a.eval q.2)).toList[j].1 /\
   RepT w.heap G (ps.map fun(q:Nat×Operand)=>(q.1,a.eval q.2)).toList[j].2 (ps'.map fun p=>(p.1,Opd.val gl st.fr p.2))[j].2:=by
 obtain⟨h1,h2⟩:=fm h;refine⟨by simp[h1],fun j ha hb=> ?_⟩;simp only[List.length_map]at ha;have hj:j<ps.toList.length:=by omega
 obtain⟨y,hy,hf⟩:=h2 j _ (wT hj);simp only[wC]at hf;obtain⟨x,hx,rfl⟩:=hf;have hy':ps'[j]=(ps.toList[j].1,x):=by have:=wT ha;rw[this]at hy;simpa using hy
 simp only[List.getElem_map,hy',Array.toList_map];exact⟨trivial,aG hg hst hx⟩
theorem J2 {fs:List Sh}{zs:List AV}{i:Nat}{s:Sh}{x:AV}(h:bh fs zs=true)(hi:fs[i]? =some s)(hx:aD s x=true) :
  bh fs (zs.set i x)=true/\∃z,zs[i]? =some z/\aD s z=true/\∃pre post,AV.flats zs=pre++z.flat++post/\pre.length=Sh.sizes (fs.take i) /\
   AV.flats (zs.set i x)=pre++x.flat++post:=by
 obtain⟨z,hz,hsz⟩:=ew h hi;obtain⟨pre,post,h1,h2,h3⟩:=dr h hz;exact⟨ng h hi hx,z,hz,hsz,pre,post,h1,h2,h3 x⟩
theorem uv {e:Sh}{zs:List AV}{i:Nat}{x:AV}(h:∀z∈zs,aD e z=true)(hi:i<zs.length)(hx:aD e x=true) :
  (∀z∈zs.set i x,aD e z=true)/\∃z,zs[i]? =some z/\aD e z=true/\∃pre post,AV.flats zs=pre++z.flat++post/\pre.length=i*e.size /\
    AV.flats (zs.set i x)=pre++x.flat++post:=by
 have hz:zs[i]? =some zs[i]:=wT hi;obtain⟨pre,post,h1,h2,h3⟩:=cr (fun y hy=>aB e y (h y hy)) hz;exact⟨EU h hx,_,hz,h _ (List.getElem_mem hi),pre,post,h1,h2,h3 x⟩
theorem jG :∀{l:List AV},AV.plains l=true↔∀x∈l,x.plain=true
 | []=>by simp[AV.plains]
 | a::l=>by simp[AV.plains,jG (l:=l)]
theorem Nv {l:List AV}(hw:∀x∈l,x.wf):(AV.mk l).isAgg=true/\(AV.mk l).kids=l/\(AV.mk l).flat=AV.flats l/\(AV.mk l).wf/\(AV.mk l).known=true:=by
 unfold AV.mk;split
 . rename_i h;exact⟨rfl,rfl,rfl,by rw[AV.wf,AV.wfp_iff];exact fun x hx=>⟨jG.1 h x hx,hw x hx⟩,rfl⟩
 . exact⟨rfl,rfl,rfl,by rw[AV.wf,AV.wfs_iff];exact hw,rfl⟩
theorem CQ {t:TypeId}{ps:Array (Nat×Operand)}(hg:GlOk w.heap G gl)(hst:StOk w.heap G st a.tmps)(ho:o.op= .build t ps)(hc:aF P im o=some m)
  (hs:af gl cl st o.dst m=some (v,us)):bX P w G st.hp (execOp a.eval o) v us:=by
 simp only[aF,ho,wD,wC]at hc;obtain⟨⟨sh,z⟩,hz,ps',hps,rfl⟩:=hc;obtain⟨hshT,zv,hzv,hsh,hzp,hzw,hrl⟩:=bJ hz;obtain⟨p1,p2⟩:=py hg hst hps;simp only[af]at hs;have fin:∀(c':Array Value) (l:List AV),RepL w.heap G c'.toList (AV.flats l)->(∀x∈l,x.wf)->RepT w.heap G (.agg c') (AV.mk l):=fun c' l h1 h2=>by obtain⟨k1,k2,k3,k4,k5⟩:=Nv h2;rw[RepT.of_known k5];exact⟨k5,k4,c'.toList,by rw[k3];exact h1,by simp[dQ,k1]⟩
 split at hs
 . rename_i zs fs;simp only[wC,wh]at hs;obtain⟨l,hl,rfl,rfl⟩:=hs
   have hu:∃fields,P.underlying t=some (.struct fields):=by
    have h0:=kG (w:=w) hshT;simp only[Sh.agg,isAgg,wM]at h0
    cases hu:P.underlying t with
    | none=>simp[SF,dh,hu]at hshT
    | some d =>
      cases d with
      | struct fields=>exact⟨fields,rfl⟩
      | array k e=>obtain⟨s,h1,_⟩:=fc hshT hu;cases h1
      | _=>simp[aC hu]at h0
   obtain⟨fields,hu⟩:=hu;obtain⟨fs',e1,e2,e3⟩:=dW hshT hu;cases e1;rw[fJ]at hsh;have hwz:∀x∈zs,x.wf:=fun x hx=>(AV.wfp_iff zs |>.1 (by simpa[AV.wf]using hzw) x hx).2
   let pl:Field->Nat×Nat:=fun f=>(f.offset,((P.info? f.type).map (·.size)).getD 0)
   obtain⟨c',k1,k2,k3,k4,k5⟩:=iz (sub:=(fs[·]?)) (place:=((fields.map pl)[·]?)) w.heap G (fun zs=>bh fs zs=true)
    (fun zs i s x hzs hi hx=>by
      obtain⟨h1,z,h2,h3,pre,post,h4,h5,h6⟩:=J2 hzs hi hx;refine⟨h1,z,h2,h3,pre,post,_,?_,h4,h5,h6⟩;obtain⟨hlt,_⟩:=wY.1 hi;have hf:fields[i]? =some (fields[i]'(by omega)):=by simp[show i<fields.size by omega]
      obtain⟨s',g1,g2,g3,_⟩:=e3 i _ hf;rw[hi]at g1;cases g1;simp only[wn,hf,wE,pl,g2,g3,Option.getD_some]) _ _ zs l zv.cells hsh (by simpa[AV.flat]using hrl w.heap G) p1 p2 hl
   refine⟨.agg c',w,G,⟨rfl,rfl⟩,.inl ?_,Step.refl hst.inv,fin c' l k2 fun x hx=> ?_⟩
   . have hm:(fields.mapM (m:=Sem) fun f=>do pure (f.offset,<-sizeOf f.type)).run P w= .ok (fields.map pl) w:=by
      refine HN _ pl fields fun f hf=> ?_
      obtain⟨i,hi,rfl⟩:=Array.getElem_of_mem hf;obtain⟨s,_,_,g3,_⟩:=e3 i fields[i] (by simp[hi]);simp[br g3,pl,g3]
     have hrun:(Instr.build t (ps.map fun(q:Nat×Operand)=>(q.1,a.eval q.2))).run P w= .ok (.agg c') w:=by simp only[Instr.build,wM,hzv,wO,aC hu,hm];rw[k1];rfl
     have he:execOp a.eval o=(do pure (.value (<-Instr.build t (ps.map fun(q:Nat×Operand)=>(q.1,a.eval q.2))))):=by simp only[execOp,ho]
     rw[he];simp only[wM,hrun,wO,wN]
   . rcases k5 x hx with hx|⟨_,_,_,v,hv⟩
     . exact hwz x hx
     . exact hv.wf
 . rename_i zs n e;simp only[wC,wh]at hs;obtain⟨l,hl,rfl,rfl⟩:=hs
   have hu:∃te,P.underlying t=some (.array n te)/\(P.info? te).map (·.size)=some e.size:=by
    have h0:=kG (w:=w) hshT;simp only[Sh.agg,isAgg,wM]at h0
    cases hu:P.underlying t with
    | none=>simp[SF,dh,hu]at hshT
    | some d =>
      cases d with
      | struct fields=>obtain⟨s,h1,_⟩:=dW hshT hu;cases h1
      | array k te=>obtain⟨s,h1,h2,_⟩:=fc hshT hu;cases h1;exact⟨te,rfl,h2⟩
      | _=>simp[aC hu]at h0
   obtain⟨te,hu,hsz⟩:=hu;rw[bS]at hsh;simp only[wG,beq_iff_eq,wU]at hsh;have hwz:∀x∈zs,x.wf:=fun x hx=>(AV.wfp_iff zs |>.1 (by simpa[AV.wf]using hzw) x hx).2
   obtain⟨c',k1,k2,k3,k4,k5⟩:=iz (sub:=fun i=>if i<n then some e else none) (place:=fun i=>some (i*e.size,e.size)) w.heap G
    (fun zs=>zs.length=n/\∀z∈zs,aD e z=true)
    (fun zs i s x hzs hi hx=>by
      split at hi
      . rename_i hlt;cases hi;obtain⟨h1,z,h2,h3,pre,post,h4,h5,h6⟩:=uv (i:=i) hzs.2 (by have:=hzs.1;omega) hx;exact⟨⟨by simp[hzs.1],h1⟩,z,h2,h3,pre,post,_,rfl,h4,h5,h6⟩
      . cases hi) _ _ zs l zv.cells hsh (by simpa[AV.flat]using hrl w.heap G) p1 p2 hl
   refine⟨.agg c',w,G,⟨rfl,rfl⟩,.inl ?_,Step.refl hst.inv,fin c' l k2 fun x hx=> ?_⟩
   . have hrun:(Instr.build t (ps.map fun(q:Nat×Operand)=>(q.1,a.eval q.2))).run P w= .ok (.agg c') w:=by
      simp only[Instr.build,wM,hzv,wO,aC hu,br hsz];rw[k1];rfl
     have he:execOp a.eval o=(do pure (.value (<-Instr.build t (ps.map fun(q:Nat×Operand)=>(q.1,a.eval q.2))))):=by simp only[execOp,ho]
     rw[he];simp only[wM,hrun,wO,wN]
   . rcases k5 x hx with hx|⟨_,_,_,v,hv⟩
     . exact hwz x hx
     . exact hv.wf
 . cases hs
theorem fX {hp:Hp}(inv:Inv H G hp){k:Nat}(hk:hp.get k=none){sh:Sh}{els:List AV}{c:Array Value}{cap:Nat}(e:TypeId)(fz:Nat×Nat)(hcap:els.length<=cap)
  (hsz:c.size=cap*sh.size) (hf:freeG sh c fz) (hsh:∀x∈els,aD sh x=true/\x.plain=true/\x.wf) (hc:RepC H G c 0 (AV.flats els)) :
  Step H G hp (H.push (.cells c e fz)) (G.with k (.blk H.size (.ar cap sh))) ((k,.grow sh els)::hp):=by
 refine kE inv hk _ _ _ fun le=> ?_
 exact .inr ⟨H.size,cap,c,e,fz,by simp[Gh.with],hcap,by simp,hsz,hf,hsh,hc.mono le⟩
theorem jz {k n cap:Nat}{sh:Sh}{H':aT}(h:n<=cap):RepT H' (G.with k (.blk H.size (.ar cap sh))) (.slice (some ⟨H.size,0,none⟩) n cap) (.sl k [] 0 n):=by have:=RepS.sl (H:=H') (G:=G.with k (.blk H.size (.ar cap sh))) k [] 0 n H.size (.ar cap sh) cap sh 0 (by simp[Gh.with]) rfl rfl (by omega);exact(aq rfl).2 (by simpa using this)
theorem kg {z:AV}{n:Nat}(hz:z.flat.length=n):∀(len j:Nat),j<len*n->(AV.flats (List.replicate len z))[j]? =z.flat[j%n]?
 | 0,j,h=>by simp at h
 | len+1,j,h=>by
   simp only[List.replicate_succ,AV.flats];by_cases hj:j<n
   . rw[List.getElem?_append_left (by omega),Nat.mod_eq_of_lt hj]
   . rw[List.getElem?_append_right (by omega),hz];have hlt:j-n<len*n:=by rw[wd]at h;omega
     rw[kg hz len (j-n) hlt]
     congr 1
     rw[Nat.mod_eq_sub_mod (by omega:n<=j)]
theorem uQ {z:AV}{zero:Array Value}{n:Nat}(hz:RepL H G zero.toList z.flat)(hn:z.flat.length=n)(len:Nat) :
  RepC H G ((wi (len*n)).map fun i=>zero[i%zero.size]!) 0 (AV.flats (List.replicate len z)):=by
 have hl:=hz.len;simp only[wk]at hl;intro j hj;have hj':j<len*n:=by rwa [bj _ (n:=n) (fun x hx=>by rw[wQ hx];exact hn),wR]at hj
 have hn0:0<n:=Nat.pos_of_ne_zero fun h=>by simp[h]at hj'
 have hm:j%n<n:=Nat.mod_lt _ hn0;refine⟨zero[j%n]'(by omega),?_,?_⟩
 . simp only[w8,wn];rw[Array.getElem?_range];simp only[hj',if_true,wE,hl,hn];rw[getElem!_pos zero (j%n) (by omega)]
 . have e:=kg hn len j hj';rw[wT hj,wT (by omega)]at e;simp only[wB]at e;rw[e];have:=hz.get (j%n) (by simp;omega) (by omega);simpa using this
theorem ed {z:AV}{zero:Array Value}{n:Nat}(hz:RepL H G zero.toList z.flat)(hn:z.flat.length=n)(len:Nat) :
  RepL H G ((wi (len*n)).map fun i=>zero[i%zero.size]!).toList (AV.flats (List.replicate len z)):=by
 have hl:(AV.flats (List.replicate len z)).length=len*n:=by rw[bj _ (n:=n) (fun x hx=>by rw[wQ hx];exact hn),wR]
 refine⟨by simp[hl],fun j h1 h2=> ?_⟩;obtain⟨v,hv,hr⟩:=uQ hz hn len j h2;simp only[w8]at hv;obtain⟨hlt,rfl⟩:=wj.1 hv;simpa using hr
theorem yG {t:TypeId}{len:Nat}{ps:Array (Nat×Operand)}(hg:GlOk w.heap G gl)(hst:StOk w.heap G st a.tmps)(ho:o.op= .buildSlice t len ps)(hc:aF P im o=some m)(hmd:¬(oj im o.dst).isImp=true)
  (hs:af gl cl st o.dst m=some (v,us)):bX P w G st.hp (execOp a.eval o) v us:=by
 simp only[aF,ho]at hc;split at hc
 . rename_i e hu;simp only[wD]at hc;obtain⟨⟨sh,z⟩,hz,hc⟩:=hc;split at hc
   . rename_i hle;simp only[wC]at hc;obtain⟨ps',hps,hm⟩:=hc;subst hm;obtain⟨hshT,zv,hzv,hsh,hzp,hzw,hrl⟩:=bJ hz;obtain⟨p1,p2⟩:=py hg hst hps;simp only[af]at hs;split at hs
     . rename_i k hk;split at hs
       . rename_i hnone;simp only[wD]at hs;obtain⟨l,hl,hs⟩:=hs;have hzl:z.flat.length=sh.size:=aB sh z hsh
         have hzero:∃zero:Array Value,zero=(if len*sh.size=0 then #[]else zv.cells) /\
           RepL w.heap G ((wi (len*sh.size)).map fun i=>zero[i%zero.size]!).toList (AV.flats (List.replicate len z)):=by
          by_cases h0:len*sh.size=0
          . refine⟨#[],by rw[if_pos h0],?_⟩;have hl0:(AV.flats (List.replicate len z)).length=0:=by rw[bj _ (n:=sh.size) (fun x hx=>by rw[wQ hx];exact hzl),wR,h0]
            exact⟨by simp[h0,hl0],fun j h1=>by simp[h0]at h1⟩
          . exact⟨zv.cells,by rw[if_neg h0],ed (hrl w.heap G) hzl len⟩
         obtain⟨zero,hrun0,hrep0⟩:=hzero;obtain⟨c',k1,k2,k3,k4,k5⟩:=iz (sub:=fun i=>if i<len then some sh else none) (place:=fun i=>some (i*sh.size,sh.size)) w.heap G
          (fun zs=>zs.length=len/\∀z∈zs,aD sh z=true)
          (fun zs i s x hzs hi hx=>by
            split at hi
            . rename_i hlt;cases hi;obtain⟨h1,z,h2,h3,pre,post,h4,h5,h6⟩:=uv (i:=i) hzs.2 (by have:=hzs.1;omega) hx;exact⟨⟨by simp[hzs.1],h1⟩,z,h2,h3,pre,post,_,rfl,h4,h5,h6⟩
            . cases hi) _ _ (List.replicate len z) l _ ⟨by simp,fun x hx=>by rw[wQ hx];exact hsh⟩ hrep0 p1 p2 hl
         have hlen:l.length=len:=k3.1;have hcs:c'.size=len*sh.size:=by have:=k2.len;rw[bj _ (n:=sh.size) (fun x hx=>aB sh x (k3.2 x hx)),hlen]at this;simpa using this
         have hrun:(Instr.buildSlice t len (ps.map fun(q:Nat×Operand)=>(q.1,a.eval q.2))).run P w =
           .ok (.slice (some ⟨w.heap.size,0,none⟩) len len) {w with heap:=w.heap.push (.cells c' e)}:=by
          simp only[Instr.buildSlice,wM,aC hu,wO,br (bx hshT)];rw[if_neg (by have h24:len*sh.size<=2^24:=hle;omega)];by_cases h0:len*sh.size=0
          . rw[if_pos h0]at hrun0;subst hrun0;simp only[h0,if_true,wM,wN,wO]at k1 ⊢;rw[k1];simp[newRow]
          . rw[if_neg h0]at hrun0;subst hrun0;simp only[h0,if_false,wM,wN,wO,hzv];rw[k1];simp[newRow]
         have he:execOp a.eval o=(do pure (.value (<-Instr.buildSlice t len (ps.map fun(q:Nat×Operand)=>(q.1,a.eval q.2))))):=by simp only[execOp,ho]
         have hval:(execOp a.eval o).run P w= .ok (.value (.slice (some ⟨w.heap.size,0,none⟩) len len)) {w with heap:=w.heap.push (.cells c' e)}:=by rw[he];simp only[wM,hrun,wO,wN]
         have hwf:∀x∈l,x.wf:=fun x hx=>by
          rcases k5 x hx with hx'|⟨_,_,_,v,hv⟩
          . rw[wQ hx'];exact hzw
          . exact hv.wf
         split at hs
         . rename_i hpl;simp only[wB,wh]at hs;obtain⟨rfl,rfl⟩:=hs
           have hst':=fX (e:=e) (fz:=(0,0)) (k:=k) (c:=c') (cap:=len) hst.inv (by simpa using hnone) (Nat.le_of_eq hlen) hcs (.inl rfl)
            (fun x hx=>⟨k3.2 x hx,jG.1 hpl x hx,hwf x hx⟩) (by simpa using bD k2)
           exact⟨_,{w with heap:=w.heap.push (.cells c' e)},_,⟨rfl,rfl⟩,.inl hval,hst',jz (w9 _)⟩
         . simp only[wB,wh]at hs;obtain⟨rfl,rfl⟩:=hs
           have hst':=rJ (sh:=.ar len sh) (x:=.aggR l) (vs:=c'.toList) hst.inv (k:=k) (by simpa using hnone) e
            (by simp only[aD,AV.isAgg,AV.kids,hlen,beq_self_eq_true,wJ,wU];exact k3.2) ((AV.wfs_iff l).2 hwf) k2
           exact⟨_,{w with heap:=w.heap.push (.cells c' e)},_,⟨rfl,rfl⟩,.inl hval,by simpa using hst',jz (w9 _)⟩
       . cases hs
     . cases hs
   . cases hc
 . cases hc
theorem Ge {t:TypeId}{len:Nat}{ps:Array (Nat×Operand)}(hg:GlOk w.heap G gl)(hst:StOk w.heap G st a.tmps)(ho:o.op= .buildSlice t len ps)(hc:aF P im o=some m)(hmd:(oj im o.dst).isImp=true)
  (hs:af gl cl st o.dst m=some (v,us)):bX P w G st.hp (execOp a.eval o) v us:=by
 simp only[aF,ho]at hc;split at hc
 . rename_i e hu;simp only[wD]at hc;obtain⟨⟨sh,z⟩,hz,hc⟩:=hc;split at hc
   . rename_i hle;simp only[wC]at hc;obtain⟨ps',hps,hm⟩:=hc;subst hm;obtain⟨hshT,zv,hzv,hsh,hzp,hzw,hrl⟩:=bJ hz;obtain⟨p1,p2⟩:=py hg hst hps;simp only[af]at hs
     ·
      ·
       simp only[wD]at hs;obtain⟨l,hl,hs⟩:=hs;have hzl:z.flat.length=sh.size:=aB sh z hsh;have hzero:∃zero:Array Value,zero=(if len*sh.size=0 then #[]else zv.cells) /\
         RepL w.heap G ((wi (len*sh.size)).map fun i=>zero[i%zero.size]!).toList (AV.flats (List.replicate len z)):=by
        by_cases h0:len*sh.size=0
        . refine⟨#[],by rw[if_pos h0],?_⟩;have hl0:(AV.flats (List.replicate len z)).length=0:=by rw[bj _ (n:=sh.size) (fun x hx=>by rw[wQ hx];exact hzl),wR,h0]
          exact⟨by simp[h0,hl0],fun j h1=>by simp[h0]at h1⟩
        . exact⟨zv.cells,by rw[if_neg h0],ed (hrl w.heap G) hzl len⟩
       obtain⟨zero,hrun0,hrep0⟩:=hzero;obtain⟨c',k1,k2,k3,k4,k5⟩:=iz (sub:=fun i=>if i<len then some sh else none) (place:=fun i=>some (i*sh.size,sh.size)) w.heap G
        (fun zs=>zs.length=len/\∀z∈zs,aD sh z=true)
        (fun zs i s x hzs hi hx=>by
          split at hi
          . rename_i hlt;cases hi;obtain⟨h1,z,h2,h3,pre,post,h4,h5,h6⟩:=uv (i:=i) hzs.2 (by have:=hzs.1;omega) hx;exact⟨⟨by simp[hzs.1],h1⟩,z,h2,h3,pre,post,_,rfl,h4,h5,h6⟩
          . cases hi) _ _ (List.replicate len z) l _ ⟨by simp,fun x hx=>by rw[wQ hx];exact hsh⟩ hrep0 p1 p2 hl
       have hlen:l.length=len:=k3.1;have hcs:c'.size=len*sh.size:=by have:=k2.len;rw[bj _ (n:=sh.size) (fun x hx=>aB sh x (k3.2 x hx)),hlen]at this;simpa using this
       have hrun:(Instr.buildSlice t len (ps.map fun(q:Nat×Operand)=>(q.1,a.eval q.2))).run P w =
         .ok (.slice (some ⟨w.heap.size,0,none⟩) len len) {w with heap:=w.heap.push (.cells c' e)}:=by
        simp only[Instr.buildSlice,wM,aC hu,wO,br (bx hshT)];rw[if_neg (by have h24:len*sh.size<=2^24:=hle;omega)];by_cases h0:len*sh.size=0
        . rw[if_pos h0]at hrun0;subst hrun0;simp only[h0,if_true,wM,wN,wO]at k1 ⊢;rw[k1];simp[newRow]
        . rw[if_neg h0]at hrun0;subst hrun0;simp only[h0,if_false,wM,wN,wO,hzv];rw[k1];simp[newRow]
       have he:execOp a.eval o=(do pure (.value (<-Instr.buildSlice t len (ps.map fun(q:Nat×Operand)=>(q.1,a.eval q.2))))):=by simp only[execOp,ho]
       have hval:(execOp a.eval o).run P w= .ok (.value (.slice (some ⟨w.heap.size,0,none⟩) len len)) {w with heap:=w.heap.push (.cells c' e)}:=by rw[he];simp only[wM,hrun,wO,wN]
       have hwf:∀x∈l,x.wf:=fun x hx=>by
        rcases k5 x hx with hx'|⟨_,_,_,v,hv⟩
        . rw[wQ hx'];exact hzw
        . exact hv.wf
       split at hs
       . rename_i hpl;simp only[wB,wh]at hs;obtain⟨rfl,rfl⟩:=hs;have hst':=HA hst.inv (.cells c' e);refine⟨_,{w with heap:=w.heap.push (.cells c' e)},_,⟨rfl,rfl⟩,.inl hval,hst',(aq rfl).2 ?_⟩;have hrc:RepC w.heap G c' 0 (AV.flats l):=by simpa using bD k2
         have:=oo (H:=w.heap.push (.cells c' e)) (G:={imm:=fun b=>G.imm b\/b=w.heap.size,reg:=G.reg,yl:=G.yl}) (full:=true) (sh:=sh) (l:=l) (b:=some ⟨w.heap.size,0,none⟩) (cap:=l.length) (w9 _) (fun _=>rfl)
          (fun x hx=>⟨k3.2 x hx,jG.1 hpl x hx,hwf x hx⟩) (.inr ⟨w.heap.size,0,c',e,(0,0),rfl,.inr rfl,by simp,hrc.mono hst'.le⟩)
         rwa [hlen]at this
       . cases hs
   . cases hc
 . cases hc
theorem AQ {t:TypeId}{len:Nat}{ps:Array (Nat×Operand)}(hg:GlOk w.heap G gl)(hst:StOk w.heap G st a.tmps)(ho:o.op= .buildSlice t len ps)(hc:aF P im o=some m)
  (hs:af gl cl st o.dst m=some (v,us)):bX P w G st.hp (execOp a.eval o) v us:=by
 by_cases h:(oj im o.dst).isImp=true
 . exact Ge hg hst ho hc h hs
 . exact yG hg hst ho hc h hs
theorem uS {t:TypeId}{l c:Operand}(hg:GlOk w.heap G gl)(hst:StOk w.heap G st a.tmps)(ho:o.op= .makeSlice t l c)(hc:aF P im o=some m)(hmd:¬(oj im o.dst).isImp=true)
  (hs:af gl cl st o.dst m=some (v,us)):bX P w G st.hp (execOp a.eval o) v us:=by
 simp only[aF,ho,hmd,wH,if_false]at hc;split at hc
 . rename_i e hu;simp only[wD,wC]at hc;obtain⟨⟨sh,z⟩,hz,i,hi,l',hl',c',hc',rfl⟩:=hc;obtain⟨hshT,zv,hzv,hsh,hzp,hzw,hrl⟩:=bJ hz;have hvl:=aG hg hst hl';have hvc:=aG hg hst hc';simp only[af]at hs;split at hs
   . rename_i k kl ln kc cn hk hl1 hc1;rw[hl1]at hvl;rw[hc1]at hvc;split at hs
     . rename_i hcond;simp only[wG,decide_eq_true_eq]at hcond;obtain⟨hnone,h0,h1,h2,h3⟩:=hcond;simp only[wB,wh]at hs;obtain⟨rfl,rfl⟩:=hs;have hzl:z.flat.length=sh.size:=aB sh z hsh;have wl:IntKind.i64.wrap ln=ln:=by simp[IntKind.wrap,IntKind.bits,IntKind.signed,LIM]at h2 ⊢;omega
       have wc:IntKind.i64.wrap cn=cn:=by simp[IntKind.wrap,IntKind.bits,IntKind.signed,LIM]at h2 ⊢;omega
       have hzero:∃zero:Array Value,zero=(if cn.toNat * sh.size=0 then #[]else zv.cells) /\
         RepL w.heap G ((wi (cn.toNat * sh.size)).map fun i=>zero[i%zero.size]!).toList (AV.flats (List.replicate cn.toNat z)):=by
        by_cases h0:cn.toNat * sh.size=0
        . refine⟨#[],by rw[if_pos h0],?_⟩;have hl0:(AV.flats (List.replicate cn.toNat z)).length=0:=by rw[bj _ (n:=sh.size) (fun x hx=>by rw[wQ hx];exact hzl),wR,h0]
          exact⟨by simp[h0,hl0],fun j h1=>by simp[h0]at h1⟩
        . exact⟨zv.cells,by rw[if_neg h0],ed (hrl w.heap G) hzl cn.toNat⟩
       obtain⟨zero,hrun0,hrep0⟩:=hzero;have hsplit:AV.flats (List.replicate cn.toNat z)=AV.flats (List.replicate ln.toNat z)++AV.flats (List.replicate (cn.toNat-ln.toNat) z):=by rw[<-AV.flats_append,List.replicate_append_replicate];congr 2;omega
       have hst':=fX (sh:=sh) (e:=e) (fz:=(0,0)) (k:=k) (els:=List.replicate ln.toNat z) (c:=(wi (cn.toNat * sh.size)).map fun i=>zero[i%zero.size]!) (cap:=cn.toNat)
        hst.inv (by simpa using hnone) (by simp;omega) (by simp) (.inl rfl)
        (fun x hx=>by rw[wQ hx];exact⟨hsh,hzp,hzw⟩)
        (by
          have:=bD hrep0;simp only[wm]at this;exact this.part (pre:=[]) (by rw[hsplit];rfl))
       refine⟨_,{w with heap:=w.heap.push (.cells ((wi (cn.toNat * sh.size)).map fun i=>zero[i%zero.size]!) e)},_,⟨rfl,rfl⟩,.inl ?_,hst',jz (by omega)⟩;have hrun:(Instr.makeSlice t (.int kl ln) (.int kc cn)).run P w= .ok (.slice (some ⟨w.heap.size,0,none⟩) ln.toNat cn.toNat)
         {w with heap:=w.heap.push (.cells ((wi (cn.toNat * sh.size)).map fun i=>zero[i%zero.size]!) e)}:=by
        have hb:(i.bytes:Int)*cn<=2^48:=by have h4:(i.bytes:Int)*cn<=1024*2^36:=wp (by omega) (by simpa[LIM]using h2) (by omega) (by decide);omega
        have hb':(i.bytes:Int)*ln<=2^48:=by have h4:(i.bytes:Int)*ln<=(i.bytes:Int)*cn:=wo h1 (by omega);omega
        have ai:∀(kk:IntKind) (nn:Int),(Go.asInt (Value.int kk nn)).run P w=wP nn w:=fun kk nn=>by simp[Go.asInt,asIntOf]
        have c1:¬cn<0:=by omega
        have c2:¬(i.bytes:Int)*cn>2^48:=by omega
        have c3:¬ln<0:=by omega
        have c4:¬ln>cn:=by omega
        simp only[Instr.makeSlice,wM,aC hu,wO,ai,fu hi,wl,wc,c1,c2,c3,c4,decide_false,wK,wH,if_false,
         run_askRoom,br (bx hshT)]
        by_cases h0:cn.toNat * sh.size=0
        . rw[if_pos h0]at hrun0;subst hrun0;simp only[h0,if_true,wM,wN,wO,newRow,run_newObj]
        . rw[if_neg h0]at hrun0;subst hrun0;simp only[h0,if_false,wM,wN,wO,hzv,newRow,run_newObj]
       simp only[execOp,ho,aU hvl,aU hvc,wM,hrun,wO,wN]
     . cases hs
   . cases hs
 . cases hc
theorem CH {t:TypeId}{l c:Operand}(hg:GlOk w.heap G gl)(hst:StOk w.heap G st a.tmps)(ho:o.op= .makeSlice t l c)(hc:aF P im o=some m)(hmd:(oj im o.dst).isImp=true)
  (hs:af gl cl st o.dst m=some (v,us)):bX P w G st.hp (execOp a.eval o) v us:=by
 simp only[aF,ho,hmd,if_true]at hc;split at hc
 . rename_i e hu;simp only[wD,wC]at hc;obtain⟨⟨sh,z⟩,hz,i,hi,l',hl',c',hc',rfl⟩:=hc;obtain⟨hshT,zv,hzv,hsh,hzp,hzw,hrl⟩:=bJ hz;have hvl:=aG hg hst hl';have hvc:=aG hg hst hc';simp only[af]at hs;split at hs
   . rename_i k kl ln kc ln hk hl1 hc1;rw[hl1]at hvl;rw[hc1]at hvc;split at hs
     . rename_i hcond;simp only[wG,decide_eq_true_eq]at hcond;obtain⟨hnone,h0,h1,h2,h3⟩:=hcond;subst h1;have h1:ln<=ln:=Int.le_refl _;simp only[wB,wh]at hs;obtain⟨rfl,rfl⟩:=hs;have hzl:z.flat.length=sh.size:=aB sh z hsh;have wl:IntKind.i64.wrap ln=ln:=by simp[IntKind.wrap,IntKind.bits,IntKind.signed,LIM]at h2 ⊢;omega
       have wc:IntKind.i64.wrap ln=ln:=by simp[IntKind.wrap,IntKind.bits,IntKind.signed,LIM]at h2 ⊢;omega
       have hzero:∃zero:Array Value,zero=(if ln.toNat * sh.size=0 then #[]else zv.cells) /\
         RepL w.heap G ((wi (ln.toNat * sh.size)).map fun i=>zero[i%zero.size]!).toList (AV.flats (List.replicate ln.toNat z)):=by
        by_cases h0:ln.toNat * sh.size=0
        . refine⟨#[],by rw[if_pos h0],?_⟩;have hl0:(AV.flats (List.replicate ln.toNat z)).length=0:=by rw[bj _ (n:=sh.size) (fun x hx=>by rw[wQ hx];exact hzl),wR,h0]
          exact⟨by simp[h0,hl0],fun j h1=>by simp[h0]at h1⟩
        . exact⟨zv.cells,by rw[if_neg h0],ed (hrl w.heap G) hzl ln.toNat⟩
       obtain⟨zero,hrun0,hrep0⟩:=hzero;have hst':Step w.heap G st.hp (w.heap.push (.cells ((wi (ln.toNat * sh.size)).map fun i=>zero[i%zero.size]!) e)) (G.with k (.blk w.heap.size (.ar ln.toNat sh))) ((k,.fix (.ar ln.toNat sh) (.agg (List.replicate ln.toNat z)))::st.hp) :=
        kE hst.inv (by simpa using hnone) _ _ _ fun le=>⟨w.heap.size,(wi (ln.toNat * sh.size)).map fun i=>zero[i%zero.size]!,e,(0,0),by simp[Gh.with],by simp,by simp[Sh.size],.inl rfl,by
         rw[bS];simp only[wR,beq_self_eq_true,wJ,wU];exact fun x hx=>by rw[wQ hx];exact hsh,by
         show AV.wfp _;rw[AV.wfp_iff];exact fun x hx=>by rw[wQ hx];exact⟨hzp,hzw⟩,by
         have:=bD hrep0;simp only[wm]at this;exact this.mono le⟩
       refine⟨_,{w with heap:=w.heap.push (.cells ((wi (ln.toNat * sh.size)).map fun i=>zero[i%zero.size]!) e)},_,⟨rfl,rfl⟩,.inl ?_,hst',jz (by omega)⟩;have hrun:(Instr.makeSlice t (.int kl ln) (.int kc ln)).run P w= .ok (.slice (some ⟨w.heap.size,0,none⟩) ln.toNat ln.toNat)
         {w with heap:=w.heap.push (.cells ((wi (ln.toNat * sh.size)).map fun i=>zero[i%zero.size]!) e)}:=by
        have hb:(i.bytes:Int)*ln<=2^48:=by have h4:(i.bytes:Int)*ln<=1024*2^36:=wp (by omega) (by simpa[LIM]using h2) (by omega) (by decide);omega
        have hb':(i.bytes:Int)*ln<=2^48:=by have h4:(i.bytes:Int)*ln<=(i.bytes:Int)*ln:=wo h1 (by omega);omega
        have ai:∀(kk:IntKind) (nn:Int),(Go.asInt (Value.int kk nn)).run P w=wP nn w:=fun kk nn=>by simp[Go.asInt,asIntOf]
        have c1:¬ln<0:=by omega
        have c2:¬(i.bytes:Int)*ln>2^48:=by omega
        have c3:¬ln<0:=by omega
        have c4:¬ln>ln:=by omega
        simp only[Instr.makeSlice,wM,aC hu,wO,ai,fu hi,wl,wc,c1,c2,c3,c4,decide_false,wK,wH,if_false,
         run_askRoom,br (bx hshT)]
        by_cases h0:ln.toNat * sh.size=0
        . rw[if_pos h0]at hrun0;subst hrun0;simp only[h0,if_true,wM,wN,wO,newRow,run_newObj]
        . rw[if_neg h0]at hrun0;subst hrun0;simp only[h0,if_false,wM,wN,wO,hzv,newRow,run_newObj]
       simp only[execOp,ho,aU hvl,aU hvc,wM,hrun,wO,wN]
     . cases hs
   . cases hs
 . cases hc
theorem yE {t:TypeId}{l c:Operand}(hg:GlOk w.heap G gl)(hst:StOk w.heap G st a.tmps)(ho:o.op= .makeSlice t l c)(hc:aF P im o=some m)
  (hs:af gl cl st o.dst m=some (v,us)):bX P w G st.hp (execOp a.eval o) v us:=by
 by_cases h:(oj im o.dst).isImp=true
 . exact CH hg hst ho hc h hs
 . exact uS hg hst ho hc h hs
theorem kL {hp:Hp}{k b:Nat}{sh root:Sh}{x:AV}(inv:Inv H G hp)(hk:hp.get k=some (.fix sh x))(hr:G.reg k=some (.blk b root)):root=sh:=by obtain⟨b',c,e,fz,hr',_⟩:=inv.obs k _ hk;rw[hr]at hr';simp only[wB,Rg.blk.injEq]at hr';exact hr'.2
theorem lQ {hp:Hp}{k b:Nat}{sh root:Sh}{els:List AV}(inv:Inv H G hp)(hk:hp.get k=some (.grow sh els))(hr:G.reg k=some (.blk b root)) :
  ∃cap,root= .ar cap sh/\els.length<=cap:=by
 rcases inv.obs k _ hk with ⟨_,h2⟩|⟨b',cap,c,e,fz,hr',hle,_⟩
 . rw[hr]at h2;cases h2
 . rw[hr]at hr';simp only[wB,Rg.blk.injEq]at hr';exact⟨cap,hr'.2,hle⟩
theorem vK {root:Sh}{p:List Nat}{fs:List Sh}{i o:Nat}(hs:root.sub p=some (.st fs))(ho:root.off p=some o)(hi:i<fs.length) :
  root.off (p++[i])=some (o+Sh.sizes (fs.take i)):=by
 refine jK hs ho ?_;have:fs[i]? =some fs[i]:=wT hi;simp only[Sh.off,this,Option.bind_some,wE,wb]
theorem oc {root:Sh}{p:List Nat}{n i o:Nat}{e:Sh}(hs:root.sub p=some (.ar n e))(ho:root.off p=some o)(hi:i<n) :
  root.off (p++[i])=some (o+i*e.size):=by
 refine jK hs ho ?_;simp only[Sh.off,hi,if_true,wE,wb]
theorem zM {cap j:Nat}{sh:Sh}{q:List Nat}{o:Nat}(ho:(Sh.ar cap sh).off (j::q)=some o):(Sh.ar cap sh).sub (j::q)=sh.sub q:=by
 simp only[Sh.off]at ho;split at ho
 . rename_i h;simp[Sh.sub,h]
 . cases ho
theorem zY {t:TypeId}{fields:Array Field}{f:Nat}{fd:Field}{b off:Nat}(hu:P.underlying t=some (.struct fields))(hf:fields[f]? =some fd)
  (hsz:((P.info? fd.type).map (·.size)).any (· != 0)=true) :
  (Instr.fieldAt t (.pointer (some ⟨b,off,none⟩)) f).run P w= .ok (.pointer (some ⟨b,off+fd.offset,none⟩)) w:=by
 cases hi:P.info? fd.type with
 | none=>simp[hi]at hsz
 | some i =>simp[hi]at hsz;have hr:(sizeOf fd.type).run P w= .ok i.size w:=br (by simp[hi]);simp[Instr.fieldAt,aC hu,hf,Instr.sureAddr,fieldPlace,hr,hsz,cY]
theorem CN {t:TypeId}{x:Operand}{f:Nat}(hg:GlOk w.heap G gl)(hst:StOk w.heap G st a.tmps)(ho:o.op= .fieldAddr t x f)(hc:aF P im o=some m)
  (hs:af gl cl st o.dst m=some (v,us)):bX P w G st.hp (execOp a.eval o) v us:=by
 simp only[aF,ho]at hc;split at hc
 . rename_i fields hu;simp only[wD]at hc;obtain⟨fd,hfd,hc⟩:=hc;split at hc
   . rename_i hsz;simp only[wC]at hc;obtain⟨x',hx,rfl⟩:=hc;have hvx:=aG hg hst hx;have fin:∀(b off:Nat) (r:AV),a.eval x= .pointer (some ⟨b,off,none⟩)->RepT w.heap G (.pointer (some ⟨b,off+fd.offset,none⟩)) r->bX P w G st.hp (execOp a.eval o) r []:=by intro b off r hev hr;exact⟨_,w,G,⟨rfl,rfl⟩,.inl (by simp only[execOp,ho,hev,wM,zY hu hfd hsz,wO,wN]),Step.refl hst.inv,hr⟩
     simp only[af]at hs
     cases hv:Opd.val gl st.fr x' with
     | ptr k p =>
       rw[hv,aq rfl]at hvx;have hN:∀b c X,G.reg k≠some (.nst b c X):=fun b c X hr=>by rcases hst.inv.isN hr with ⟨els,he⟩|he<;>simp[hv,he]at hs
       obtain⟨b,root,off,hev,hr,hof⟩:=je hvx hN;simp only[hv]at hs
       cases hk:st.hp.get k with
       | none=>simp[hk]at hs
       | some ob =>
         cases ob with
         | dead=>simp[hk]at hs
         | lp _ _ _=>simp[hk]at hs
         | mp _ _=>simp[hk]at hs
         | nest _=>simp[hk]at hs
         | fix sh z =>
           simp only[hk]at hs;have:=kL hst.inv hk hr;subst this;split at hs
           . rename_i fs hsub;split at hs
             . rename_i hcond;simp only[wB,wh]at hs;obtain⟨rfl,rfl⟩:=hs;refine fin b off _ hev ((aq rfl).2 (.ptr k _ b root _ hr ?_));rw[<-hcond.2];exact vK hsub hof hcond.1
             . cases hs
           . cases hs
         | grow sh els =>
           obtain⟨cap,rfl,_⟩:=lQ hst.inv hk hr
           cases p with
           | nil=>simp[hk]at hs
           | cons j q =>
             simp only[hk]at hs;split at hs
             . rename_i fs hsub;split at hs
               . rename_i hcond;simp only[wB,wh]at hs;obtain⟨rfl,rfl⟩:=hs;refine fin b off _ hev ((aq rfl).2 (.ptr k _ b (.ar cap sh) _ hr ?_));rw[<-hcond.2];exact vK (p:=j::q) (by rw[zM hof];exact hsub) hof hcond.1
               . cases hs
             . cases hs
     | cp sh z =>
       rw[hv,aq rfl]at hvx;obtain⟨b,off,c,e,fz,hev,hi,hb,hrc,h1,h2,h3⟩:=qW hvx;simp only[hv]at hs
       cases sh with
       | st fs =>
         simp only at hs;split at hs
         . rename_i s y hfs hky;split at hs
           . rename_i hcond;simp only[wB,wh]at hs;obtain⟨rfl,rfl⟩:=hs;simp only[aD,wG]at h1;obtain⟨y',hy',hsy⟩:=ew h1.2 hfs;rw[hky]at hy';cases hy';obtain⟨pre,post,g1,g2,_⟩:=dr h1.2 hky;refine fin b off _ hev ((aq rfl).2 (oN hi hb ?_ hsy (gY h2 h3 hky) (dO h3 hky)));have:=hrc.part (by rw[AV.flat_kids h1.1];exact g1)
             rwa [g2,hcond]at this
           . cases hs
         . cases hs
       | _=>simp at hs
     | _=>simp[hv]at hs
   . cases hc
 . cases hc
theorem qH {t e:TypeId}{n sz:Nat}{k:IntKind}{j:Int}{b off:Nat}(hu:P.underlying t=some (.array n e))(hsz:(P.info? e).map (·.size)=some sz)(h0:0<=j)(h1:j<n) :
  (Instr.indexAt t (.pointer (some ⟨b,off,none⟩)) (.int k j)).run P w= .ok (.pointer (some ⟨b,off+j.toNat * sz,none⟩)) w:=by
 simp[Instr.indexAt,aC hu,asIntOf,Instr.sureAddr,h0,h1,br hsz,cY]
theorem rV {t e:TypeId}{n cap sz:Nat}{k:IntKind}{j:Int}{b off:Nat}(hu:P.underlying t=some (.slice e))(hsz:(P.info? e).map (·.size)=some sz)(h0:0<=j)(h1:j<n) :
  (Instr.indexAt t (.slice (some ⟨b,off,none⟩) n cap) (.int k j)).run P w= .ok (.pointer (some ⟨b,off+j.toNat * sz,none⟩)) w:=by
 simp[Instr.indexAt,aC hu,asIntOf,h0,h1,br hsz,cY]
theorem CJ {t:TypeId}{x i:Operand}(hg:GlOk w.heap G gl)(hst:StOk w.heap G st a.tmps)(ho:o.op= .indexAddr t x i)(hc:aF P im o=some m)
  (hs:af gl cl st o.dst m=some (v,us)):bX P w G st.hp (execOp a.eval o) v us:=by
 simp only[aF,ho,wD]at hc;obtain⟨x',hx,i',hi,hc⟩:=hc;have hvx:=aG hg hst hx;have hvi:=aG hg hst hi;split at hc
 ·
  rename_i e hu;simp only[wC]at hc;obtain⟨d,hd,rfl⟩:=hc;have hsz:(P.info? e).map (·.size)=some d.size:=by simp[hd]
  simp only[af]at hs
  cases hv1:Opd.val gl st.fr i' with
  | int k j =>
    rw[hv1]at hvi;have hvi:=aU hvi;have fin:∀(b off n cap:Nat) (r:AV),a.eval x= .slice (some ⟨b,off,none⟩) n cap->0<=j->j<n->RepT w.heap G (.pointer (some ⟨b,off+j.toNat * d.size,none⟩)) r->bX P w G st.hp (execOp a.eval o) r []:=by intro b off n cap r hev h0 h1 hr;exact⟨_,w,G,⟨rfl,rfl⟩,.inl (by simp only[execOp,ho,hev,hvi,wM,rV hu hsz h0 h1,wO,wN]),Step.refl hst.inv,hr⟩
    cases hv:Opd.val gl st.fr x' with
    | lst full sh l =>
      rw[hv,aq rfl]at hvx;obtain⟨b,cap,hev,hcap,_,hsh,hor⟩:=eh hvx;simp only[hv,hv1]at hs;split at hs
      . rename_i y hy;split at hs
        . rename_i hcond;simp only[wB,wh]at hs;obtain⟨rfl,rfl⟩:=hs;rcases hor with rfl|⟨kb,off,c,e',fz,rfl,himm,hb,hrc⟩
          . simp at hy
          have hm:=wZ hy;obtain⟨pre,post,g1,g2,_⟩:=cr (fun y hy=>aB sh y (hsh y hy).1) hy;refine fin kb off _ cap _ hev hcond.2.1 (by exact_mod_cast hcond.2.2) ((aq rfl).2 (oN himm hb ?_ (hsh y hm).1 (hsh y hm).2.1 (hsh y hm).2.2));have:=hrc.part g1
          rwa [g2,hcond.1]at this
        . cases hs
      . cases hs
    | sl k2 p off len =>
      rw[hv,aq rfl]at hvx;simp only[hv,hv1]at hs;by_cases hN:∀b c X,G.reg k2≠some (.nst b c X)
      case neg =>
       simp only[Classical.not_forall,Classical.not_not]at hN;obtain⟨b,cap,X,hr⟩:=hN;rcases hst.inv.isN hr with ⟨els,hk⟩|hk
       . cases p with
         | cons _ _=>simp[hk]at hs
         | nil =>
           simp only[hk]at hs;split at hs
           . rename_i hcond;obtain⟨h1,rfl,h2,h3⟩:=hcond;simp only[wB,wh]at hs;obtain⟨rfl,rfl⟩:=hs;generalize hev:a.eval x=vv at hvx
             cases hvx with
             | sl _ _ _ _ b' root m e o hr'=>rw[hr]at hr';cases hr'
             | slZ _ _ _ b' x' root m e hr'=>rw[hr]at hr';cases hr'
             | slNil _ a hr'=>rw[hr]at hr';cases hr'
             | slN _ _ b2 cap2 X2 hr2 hle hn =>rw[hr]at hr2;simp only[wB,Rg.nst.injEq]at hr2;obtain⟨rfl,rfl,rfl⟩:=hr2;refine fin b 0 len _ _ hev h2 h3 ((aq rfl).2 ?_);have:=RepS.ptrN (H:=w.heap) (G:=G) k2 j.toNat b cap X hr (by omega);rw[<-h1];simpa using this
           . cases hs
       . simp[hk]at hs
      rcases bF hvx hN with ⟨a0,rfl,rfl,rfl,hev,hreg⟩|⟨b,root,mm,e',o',xo,hr,hsub,hof,hle,hev,hxo⟩
      . exfalso
        cases hk:st.hp.get k2 with
        | none=>simp[hk]at hs
        | some ob =>
          cases ob with
          | dead=>simp[hk]at hs
          | lp _ _ _=>simp[hk]at hs
          | mp _ _=>simp[hk]at hs
          | nest _=>obtain⟨b',cap',X',c',e2,fz',B',hr',_⟩:=hst.inv.obs k2 _ hk;exact absurd hr' (hN _ _ _)
          | fix sh z=>obtain⟨b',c,e2,fz,hr',_⟩:=hst.inv.obs k2 _ hk;rw[hreg]at hr';cases hr'
          | grow sh els =>
            simp only[hk]at hs;split at hs
            . rename_i hcond;have:=hcond.2.2;have:=hcond.2.1;omega
            . cases hs
      . cases hk:st.hp.get k2 with
        | none=>simp[hk]at hs
        | some ob =>
          cases ob with
          | dead=>simp[hk]at hs
          | lp _ _ _=>simp[hk]at hs
          | mp _ _=>simp[hk]at hs
          | nest _=>obtain⟨b',cap',X',c',e2,fz',B',hr',_⟩:=hst.inv.obs k2 _ hk;exact absurd hr' (hN _ _ _)
          | fix sh z =>
            have:=kL hst.inv hk hr;subst this;simp only[hk,hsub]at hs;split at hs
            . rename_i hcond;simp only[wB,wh]at hs;obtain⟨rfl,rfl⟩:=hs;have hlt:off<mm:=by omega
              refine fin b xo len _ _ hev hcond.2.1 hcond.2.2 ((aq rfl).2 (.ptr k2 _ b root _ hr ?_));rw[oc hsub hof (by omega:off+j.toNat<mm),hxo hlt,<-hcond.1,wd,wa]
            . cases hs
          | grow sh els =>
            obtain⟨cap,rfl,_⟩:=lQ hst.inv hk hr
            cases p with
            | cons _ _=>simp[hk]at hs
            | nil =>
              simp only[hk]at hs;split at hs
              . rename_i hcond;simp only[wB,wh]at hs;obtain⟨rfl,rfl⟩:=hs;simp only[Sh.sub,wB,Sh.ar.injEq]at hsub;obtain⟨rfl,rfl⟩:=hsub;have hlt:off<cap:=by omega
                refine fin b xo len _ _ hev hcond.2.1 hcond.2.2 ((aq rfl).2 (.ptr k2 _ b (.ar cap sh) _ hr ?_));have:=oc (p:=[]) (root:=.ar cap sh) rfl hof (by omega:off+j.toNat<cap);rw[List.nil_append]at this;rw[this,hxo hlt,<-hcond.1,wd,wa]
              . cases hs
    | _=>simp[hv,hv1]at hs
  | _=>simp[hv1]at hs
 ·
  rename_i n e hu;simp only[wC]at hc;obtain⟨d,hd,rfl⟩:=hc;have hsz:(P.info? e).map (·.size)=some d.size:=by simp[hd]
  simp only[af]at hs
  cases hv1:Opd.val gl st.fr i' with
  | int k j =>
    rw[hv1]at hvi;have hvi:=aU hvi;have fin:∀(b off:Nat) (r:AV),a.eval x= .pointer (some ⟨b,off,none⟩)->0<=j->j<n->RepT w.heap G (.pointer (some ⟨b,off+j.toNat * d.size,none⟩)) r->bX P w G st.hp (execOp a.eval o) r []:=by intro b off r hev h0 h1 hr;exact⟨_,w,G,⟨rfl,rfl⟩,.inl (by simp only[execOp,ho,hev,hvi,wM,qH hu hsz h0 h1,wO,wN]),Step.refl hst.inv,hr⟩
    cases hv:Opd.val gl st.fr x' with
    | ptr k2 p =>
      rw[hv,aq rfl]at hvx;have hN:∀b c X,G.reg k2≠some (.nst b c X):=fun b c X hr=>by rcases hst.inv.isN hr with ⟨els,he⟩|he<;>simp[hv,hv1,he]at hs
      obtain⟨b,root,off,hev,hr,hof⟩:=je hvx hN;simp only[hv,hv1]at hs
      cases hk:st.hp.get k2 with
      | none=>simp[hk]at hs
      | some ob =>
        cases ob with
        | dead=>simp[hk]at hs
        | lp _ _ _=>simp[hk]at hs
        | mp _ _=>simp[hk]at hs
        | nest _=>simp[hk]at hs
        | fix sh z =>
          have:=kL hst.inv hk hr;subst this;simp only[hk]at hs;split at hs
          . rename_i n' e' hsub;split at hs
            . rename_i hcond;simp only[wB,wh]at hs;obtain⟨rfl,rfl⟩:=hs;refine fin b off _ hev hcond.2.2.1 hcond.2.2.2 ((aq rfl).2 (.ptr k2 _ b root _ hr ?_));rw[oc hsub hof (by omega),hcond.2.1]
            . cases hs
          . cases hs
        | grow sh els =>
          obtain⟨cap,rfl,_⟩:=lQ hst.inv hk hr
          cases p with
          | nil=>simp[hk]at hs
          | cons j0 q =>
            simp only[hk]at hs;split at hs
            . rename_i n' e' hsub;split at hs
              . rename_i hcond;simp only[wB,wh]at hs;obtain⟨rfl,rfl⟩:=hs;refine fin b off _ hev hcond.2.2.1 hcond.2.2.2 ((aq rfl).2 (.ptr k2 _ b (.ar cap sh) _ hr ?_));have:=oc (p:=j0::q) (by rw[zM hof];exact hsub) hof (by omega:j.toNat<n');rw[hcond.2.1]at this;exact this
              . cases hs
            . cases hs
    | cp sh z =>
      rw[hv,aq rfl]at hvx;obtain⟨b,off,c,e',fz,hev,himm,hb,hrc,h1,h2,h3⟩:=qW hvx;simp only[hv,hv1]at hs
      cases sh with
      | ar n' e'' =>
        simp only at hs;split at hs
        . rename_i y hky;split at hs
          . rename_i hcond;simp only[wB,wh]at hs;obtain⟨rfl,rfl⟩:=hs;simp only[aD,wG,beq_iff_eq,wU]at h1;obtain⟨pre,post,g1,g2,_⟩:=cr (fun y hy=>aB e'' y (h1.2 y hy)) hky;refine fin b off _ hev hcond.2.2.1 hcond.2.2.2 ((aq rfl).2 (oN himm hb ?_ (h1.2 y (wZ hky)) (gY h2 h3 hky) (dO h3 hky)));have:=hrc.part (by rw[AV.flat_kids h1.1.1];exact g1)
            rwa [g2,hcond.2.1]at this
          . cases hs
        . cases hs
      | _=>simp at hs
    | _=>simp[hv,hv1]at hs
  | _=>simp[hv1]at hs
 . cases hc
theorem cN {lo:Option Operand}{lo2:Option Opd}(hg:GlOk w.heap G gl)(hst:StOk w.heap G st a.tmps)(h:bR lo=some lo2) :
  (lo=none/\lo2=none)\/∃x y,lo=some x/\lo2=some y/\RepT w.heap G (a.eval x) (y.val gl st.fr):=by
 cases lo with
 | none=>simp[bR]at h;exact .inl ⟨rfl,h.symm⟩
 | some x =>simp only[bR,wC]at h;obtain⟨y,hy,rfl⟩:=h;exact .inr ⟨x,y,rfl,rfl,aG hg hst hy⟩
theorem cu {k:IntKind}{n:Int}{y:Nat}{code:BoundsCode}(h0:0<=n)(h1:n<=y):(Instr.sliceBound (.int k n) y code).run P w= .ok n.toNat w:=by simp[Instr.sliceBound,asIntOf,h0,h1]
theorem ib {isS:Bool}{len cap l h:Nat}{lo hi:Option Operand}{lo2 hi2:Option Opd}(hg:GlOk w.heap G gl)(hst:StOk w.heap G st a.tmps)
  (hlo:bR lo=some lo2) (hhi:bR hi=some hi2) (hb:eX len (lo2.map (Opd.val gl st.fr)) (hi2.map (Opd.val gl st.fr))=some (l,h)) (hle:len<=cap) :
  (Instr.sliceBounds isS len cap (lo.map a.eval) (hi.map a.eval) none).run P w= .ok (l,h,cap) w/\l<=h/\h<=len:=by
 rcases cN hg hst hlo with ⟨rfl,rfl⟩|⟨x,y,rfl,rfl,hr⟩
 . rcases cN hg hst hhi with ⟨rfl,rfl⟩|⟨x',y',rfl,rfl,hr'⟩
   . simp only[eX,wF,wB,wh]at hb;obtain⟨rfl,rfl⟩:=hb;exact⟨by simp[Instr.sliceBounds],by omega,by omega⟩
   . simp only[eX,wF,wE]at hb;cases hv:Opd.val gl st.fr y'<;>simp only[hv]at hb hr'<;>(try (cases hb;done));split at hb
     . rename_i hc;simp only[wB,wh]at hb;obtain⟨rfl,rfl⟩:=hb;refine⟨?_,by omega,by omega⟩;simp only[Instr.sliceBounds,wF,wE,aU hr',wM,wN,wO];rw[cu hc.1 (by omega)];rfl
     . cases hb
 . rcases cN hg hst hhi with ⟨rfl,rfl⟩|⟨x',y',rfl,rfl,hr'⟩
   . simp only[eX,wF,wE]at hb;cases hv:Opd.val gl st.fr y<;>simp only[hv]at hb hr<;>(try (cases hb;done));split at hb
     . rename_i hc;simp only[wB,wh]at hb;obtain⟨rfl,rfl⟩:=hb;refine⟨?_,by omega,by omega⟩;simp only[Instr.sliceBounds,wF,wE,aU hr,wM,wN,wO];rw[cu hc.1 hc.2];rfl
     . cases hb
   . simp only[eX,wE]at hb;cases hv:Opd.val gl st.fr y<;>simp only[hv]at hb hr<;>(try (cases hb;done));cases hv':Opd.val gl st.fr y'<;>simp only[hv']at hb hr'<;>(try (cases hb;done));split at hb
     . rename_i hc;simp only[wB,wh]at hb;obtain⟨rfl,rfl⟩:=hb;refine⟨?_,by omega,by omega⟩;simp only[Instr.sliceBounds,wE,aU hr,aU hr',wM,wN,wO];rw[cu (by omega) (by omega)];simp only[wO];rw[cu hc.1 (by omega)];rfl
     . cases hb
theorem zZ {isS:Bool}{len cap l h:Nat}{lo hi:Option Operand}{lo2 hi2:Option Opd}{km:IntKind}(hg:GlOk w.heap G gl)(hst:StOk w.heap G st a.tmps)
  (hlo:bR lo=some lo2) (hhi:bR hi=some hi2) (hb:eX len (lo2.map (Opd.val gl st.fr)) (hi2.map (Opd.val gl st.fr))=some (l,h)) (hle:len<=cap) (hs:hi.isSome=true) :
  (Instr.sliceBounds isS len cap (lo.map a.eval) (hi.map a.eval) (some (.int km h))).run P w= .ok (l,h,h) w/\l<=h/\h<=len:=by
 rcases cN hg hst hhi with ⟨rfl,rfl⟩|⟨x',y',rfl,rfl,hr'⟩
 . simp at hs
 rcases cN hg hst hlo with ⟨rfl,rfl⟩|⟨x,y,rfl,rfl,hr⟩
 . simp only[eX,wF,wE]at hb;cases hv:Opd.val gl st.fr y'<;>simp only[hv]at hb hr'<;>(try (cases hb;done));split at hb
   . rename_i n hc;simp only[wB,wh]at hb;obtain⟨rfl,rfl⟩:=hb;refine⟨?_,by omega,by omega⟩;simp only[Instr.sliceBounds,wF,wE,aU hr',wM,wN,wO];rw[cu (by omega) (by omega)];simp only[wO];rw[cu hc.1 (by omega)];simp;omega
   . cases hb
 . simp only[eX,wE]at hb;cases hv:Opd.val gl st.fr y<;>simp only[hv]at hb hr<;>(try (cases hb;done));cases hv':Opd.val gl st.fr y'<;>simp only[hv']at hb hr'<;>(try (cases hb;done));split at hb
   . rename_i hc;simp only[wB,wh]at hb;obtain⟨rfl,rfl⟩:=hb;refine⟨?_,by omega,by omega⟩;simp only[Instr.sliceBounds,wE,aU hr,aU hr',wM,wN];rw[cu (by omega) (by omega)];simp only[wO];rw[cu (by omega) (by omega)];simp only[wO];rw[cu hc.1 (by omega)];simp;omega
   . cases hb
theorem qg {isS:Bool}{len cap l h:Nat}{lo hi:Option Operand}{lo2 hi2:Option Opd}{km:IntKind}(hg:GlOk w.heap G gl)(hst:StOk w.heap G st a.tmps)
  (hlo:bR lo=some lo2) (hhi:bR hi=some hi2) (hb:eX len (lo2.map (Opd.val gl st.fr)) (hi2.map (Opd.val gl st.fr))=some (l,h)) (hle:len<=cap) (hs:hi.isSome=true) :
  (Instr.sliceBounds isS len cap (lo.map a.eval) (hi.map a.eval) (some (.int km len))).run P w= .ok (l,h,len) w/\l<=h/\h<=len:=by
 rcases cN hg hst hhi with ⟨rfl,rfl⟩|⟨x',y',rfl,rfl,hr'⟩
 . simp at hs
 rcases cN hg hst hlo with ⟨rfl,rfl⟩|⟨x,y,rfl,rfl,hr⟩
 . simp only[eX,wF,wE]at hb;cases hv:Opd.val gl st.fr y'<;>simp only[hv]at hb hr'<;>(try (cases hb;done));split at hb
   . rename_i n hc;simp only[wB,wh]at hb;obtain⟨rfl,rfl⟩:=hb;refine⟨?_,by omega,by omega⟩;simp only[Instr.sliceBounds,wF,wE,aU hr',wM,wN,wO];rw[cu (by omega) (by omega)];simp only[wO];rw[cu hc.1 (by omega)];simp<;>omega
   . cases hb
 . simp only[eX,wE]at hb;cases hv:Opd.val gl st.fr y<;>simp only[hv]at hb hr<;>(try (cases hb;done));cases hv':Opd.val gl st.fr y'<;>simp only[hv']at hb hr'<;>(try (cases hb;done));split at hb
   . rename_i hc;simp only[wB,wh]at hb;obtain⟨rfl,rfl⟩:=hb;refine⟨?_,by omega,by omega⟩;simp only[Instr.sliceBounds,wE,aU hr,aU hr',wM,wN];rw[cu (by omega) (by omega)];simp only[wO];rw[cu (by omega) (by omega)];simp only[wO];rw[cu hc.1 (by omega)];simp<;>omega
   . cases hb
theorem CD {t:TypeId}{x:Operand}{lo hi mx:Option Operand}{x':Opd}{lo2 hi2:Option Opd}(hg:GlOk w.heap G gl)(hst:StOk w.heap G st a.tmps)(ho:o.op= .slice t x lo hi mx)
  (hx:aw x=some x') (hlo:bR lo=some lo2) (hhi:bR hi=some hi2) (hmx:mx=none) (hu:P.underlying t=some .string)
  (hs:af gl cl st o.dst (.slStr x' lo2 hi2)=some (v,us)):bX P w G st.hp (execOp a.eval o) v us:=by
 have hvx:=aG hg hst hx;simp only[af]at hs;split at hs
 . rename_i l hv;rw[hv]at hvx;simp only[wC,wh]at hs;obtain⟨⟨b1,b2⟩,hb,rfl,rfl⟩:=hs;obtain⟨h1,h2,h3⟩:=ib (P:=P) (isS:=false) hg hst hlo hhi hb (w9 _);refine⟨.string ⟨⟨(l.take b2).drop b1⟩⟩,w,G,⟨rfl,rfl⟩,.inl ?_,Step.refl hst.inv,gB _⟩;have hsz:(ByteArray.mk ⟨l⟩).size=l.length:=rfl;subst hmx;simp only[execOp,ho,ee hvx,Instr.sliceAt,Instr.slice,wM,aC hu,wO,hsz,wF,Option.isSome_none,wH,if_false,h1,wN]
   congr 3
   rw[Lib.extract_eq]
   congr 2
   rw[List.drop_take]
 . cases hs
end
end Go.Ev
