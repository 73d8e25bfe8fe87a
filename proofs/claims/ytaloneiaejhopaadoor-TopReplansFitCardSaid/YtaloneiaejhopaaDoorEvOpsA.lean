/-
  One operation of the evaluator is one of the model's: types, operands, loads and stores. No condition.
-/
import Derived.Test.YtaloneiaejhopaaDoorEvRp
import Derived.Laws.Strings
set_option linter.all false
open Option renaming map_eq_some_iff->wB,some.injEq->wC,bind_eq_some_iff->wD,map_some->wE
open Bool renaming and_eq_true->wF,false_eq_true->wG
open List renaming getElem_append_left->wH,append_assoc->wJ,getElem_append_right->wK,getElem?_eq_some_iff->wL,mem_of_mem_take->wM,take_append_drop->wN,mem_of_mem_drop->wO,mem_of_getElem?->wP,length_append->wQ,length_take->wR,all_eq_true->wS,range->wT
open Prod renaming mk.injEq->wU
open Nat renaming zero_add->wV,min_eq_left->wW
namespace Go.Ev
open Go
variable {P :Program} {w:World} {H:Heap} {G:Gh}
theorem zaj {t:TypeId}{d:TypeDesc}(h:P.underlying t=some d):(underlying t).run P w= .ok d w:=by
 simp[underlying,h]
theorem zfb {t:TypeId}{i:TypeInfo}(h:P.info? t=some i):(typeInfo t).run P w= .ok i w:=by
 simp[typeInfo,h]
theorem za9 {t:TypeId}{n:Nat}(h:(P.info? t).map (·.size)=some n):(sizeOf t).run P w= .ok n w:=by
 cases hi:P.info? t with
 | none=>simp[hi]at h
 | some i=>simp[hi]at h;simp[sizeOf,zfb hi,h]
theorem zbb :∀{n:Nat} {t:TypeId} {sh:Sh},shOf P n t=some sh->(P.info? t).map (·.size)=some sh.size
 | 0,_,_,h=>by simp[shOf]at h
 | n+1,t,sh,h=>by
   simp only[shOf]at h
   split at h
   . simp only[wD]at h
     obtain⟨l,_,h⟩:=h
     split at h
     . rename_i hc
       simp only[wF,beq_iff_eq]at hc
       cases h;simpa[Sh.size]using hc.2
     . cases h
   . simp only[wD]at h
     obtain⟨s,_,h⟩:=h
     split at h
     . rename_i hc
       simp only[wF,beq_iff_eq]at hc
       cases h;simpa[Sh.size]using hc.2
     . cases h
   . cases h
   . split at h
     . rename_i hc;cases h;simpa[Sh.size]using hc
     . cases h
   . cases h
theorem ziv {n:Nat}{t:TypeId}{sh:Sh}(h:shOf P n t=some sh):(isAgg t).run P w= .ok sh.agg w:=by
 cases n with
 | zero=>simp[shOf]at h
 | succ n =>
   simp only[shOf]at h
   split at h
   . rename_i hu
     simp only[wD]at h
     obtain⟨l,_,h⟩:=h
     split at h
     . cases h;simp[isAgg,zaj hu,Sh.agg]
     . cases h
   . rename_i hu
     simp only[wD]at h
     obtain⟨s,_,h⟩:=h
     split at h
     . cases h;simp[isAgg,zaj hu,Sh.agg]
     . cases h
   . cases h
   . rename_i d hd h1 h2 h3 hu
     split at h
     . cases h
       simp only[isAgg,Sem.run_bind,zaj hu,Result.andThen_ok,Sh.agg]
       cases d<;>simp_all
     . cases h
   . cases h
theorem zmt {sh:Sh}{a:AV}(h:zap sh a=true):a.isAgg=sh.agg:=by
 cases sh with
 | sc=>simp only[zap]at h;simp[AV.isAgg_scalar h,Sh.agg]
 | st fs=>simp only[zap,wF]at h;simp[h.1,Sh.agg]
 | ar n e=>simp only[zap,wF]at h;simp[h.1.1,Sh.agg]
theorem zbq {sh:Sh}{a:AV}(h:zap sh a=true):a.known=true:=by
 cases sh with
 | sc=>simp only[zap]at h;exact AV.known_scalar h
 | st fs=>simp only[zap,wF]at h;revert h;cases a<;>simp[AV.isAgg,AV.known]
 | ar n e=>simp only[zap,wF]at h;revert h;cases a<;>simp[AV.isAgg,AV.known]
theorem zae {v:Value}{a:AV}(h:a.scalar=true):RepT H G v a↔RepS H G v a:=by
 rw[RepT.of_known (AV.known_scalar h),RepV.scalar h]
theorem zas {v:Value}{k:IntKind}{n:Int}(h:RepT H G v (.int k n)):v= .int k n:=by
 rw[zae rfl]at h;cases h;rfl
theorem zb7 {v:Value}{b:Bool}(h:RepT H G v (.bool b)):v= .bool b:=by
 rw[zae rfl]at h;cases h;rfl
theorem zdh {v:Value}{l:List UInt8}(h:RepT H G v (.str l)):v= .string ⟨⟨l⟩⟩:=by
 rw[zae rfl]at h;cases h;rfl
theorem zat (k:IntKind)(n:Int):RepT H G (.int k n) (.int k n):=(zae rfl).2 (.int k n)
theorem zb6 (b:Bool):RepT H G (.bool b) (.bool b):=(zae rfl).2 (.bool b)
theorem ze0 (l:List UInt8):RepT H G (.string ⟨⟨l⟩⟩) (.str l):=(zae rfl).2 (.str l)
theorem RepV.cells {v:Value}{a:AV}(h:RepV H G v a):∃vs,v.cells.toList=vs/\RepL H G vs a.flat/\v=ze3 a vs/\∀x∈vs,x.oneCell'=true:=by
 obtain⟨hk,hw,vs,hl,hv⟩:=h
 have h1:∀x∈vs,x.oneCell'=true:=fun x hx=>by
  obtain⟨i,hi,rfl⟩:=List.getElem_of_mem hx
  exact(hl.get i hi (hl.len▸hi)).oneCell
 refine⟨vs,?_,hl,hv,h1⟩
 subst hv
 unfold ze3
 by_cases ha:a.isAgg=true
 . simp[ha,Value.cells]
 . have hsc:a.scalar=true:=by cases a<;>simp_all[AV.isAgg,AV.scalar,AV.known]
   rw[AV.flat_scalar hsc]at hl
   have hlen:=hl.len
   match vs,hlen,h1 with
   | [x],_,h1 =>
     have:=h1 x (by simp)
     simp only[ha,wG,if_false,List.headD_cons]
     cases x<;>simp_all[Value.cells,Value.oneCell']
theorem zl3 {a:AV}{val:Nat->Value}(hk:a.known=true)(hw:a.wf)(h:∀j (h:j<a.flat.length),RepS H G (val j) a.flat[j]) :
  RepV H G (ze3 a ((wT a.flat.length).map val)) a :=
 ⟨hk,hw,_,⟨by simp,fun j h1 h2=>by simpa using h j h2⟩,rfl⟩
theorem zlw {n:Nat}{t:TypeId}{sh:Sh}{a:AV}{b o:Nat}{c:Array Value}{e:TypeId}{fz:Nat×Nat}(hsh:shOf P n t=some sh)
  (hag:a.isAgg=sh.agg) (hn:a.flat.length=sh.size) (hb:w.heap[b]? =some (.cells c e fz)) {val:Nat->Value}
  (hv:∀j,j<a.flat.length->c[o+j]? =some (val j)) (hk:a.known=true) :
  (loadVar t ⟨b,o,none⟩).run P w= .ok (ze3 a ((wT a.flat.length).map val)) w:=by
 simp only[loadVar,Sem.run_bind,ziv hsh,Result.andThen_ok]
 cases hs:sh.agg with
 | true =>
   simp only[if_true,Sem.run_bind,za9 (zbb hsh),Result.andThen_ok]
   rw[zgs hb val sh.size (fun j hj=>hv j (by omega))]
   simp[ze3,hag,hs,hn]
 | false =>
   have hsc:a.scalar=true:=by rw[hs]at hag;cases a<;>simp_all[AV.isAgg,AV.scalar,AV.known]
   rw[AV.flat_scalar hsc]at hv ⊢
   simp only[wG,if_false]
   rw[zlv hb (v:=val 0) (by simpa using hv 0 (by simp))]
   simp[ze3,hag,hs]
theorem zks {n:Nat}{t:TypeId}{sh:Sh}{v:Value}{vs:List Value}{b o:Nat}{c:Array Value}{e:TypeId}{fz:Nat×Nat}(hsh:shOf P n t=some sh)
  (hvs:v.cells.toList=vs) (hn:vs.length=sh.size) (hb:w.heap[b]? =some (.cells c e fz)) (hf:free c fz) (hle:o+vs.length<=c.size)
  (h1:∀x∈vs,x.oneCell'=true) :
  (storeVar t ⟨b,o,none⟩ v).run P w= .ok () {w with heap:=w.heap.setIfInBounds b (.cells (zav c o vs) e fz)}:=by
 have hsz:v.cells.size=sh.size:=by rw[<-hn,<-hvs];simp
 simp only[storeVar,Sem.run_bind,za9 (zbb hsh),Result.andThen_ok]
 simp only[hsz,ne_eq,not_true,if_false]
 rw[hvs,za4 (fz:=fz) (e:=e) vs o 0 c w hb (by simpa using hle) hf h1]
 simp
structure GlOk (H:Heap)(G:Gh)(gl:Gl):Prop where
 tab:∀i sh a,gl.tbl i=some (sh,a)->G.imm i/\zap sh a=true/\a.plain=true/\a.wf/\∃c e fz,H[i]? =some (.cells c e fz)/\RepC H G c 0 a.flat
 ri:∀i r,gl.ri i=some r->G.yl i=some r
theorem GlOk.mono {H':Heap}{G':Gh}{gl:Gl}(le:Le H G H' G')(h:GlOk H G gl):GlOk H' G' gl:=⟨fun i sh a hi=>by
 obtain⟨h1,h2,h3,h4,c,e,fz,h5,h6⟩:=h.tab i sh a hi
 exact⟨(le.imm i h1).1,h2,h3,h4,c,e,fz,(le.imm i h1).2.trans h5,h6.mono le⟩,fun i r hi=>le.yl _ _ (h.ri i r hi)⟩
structure StOk (H:Heap)(G:Gh)(st:St)(tmps:Array Value):Prop where
 inv:Inv H G st.hp
 fr:∀i,RepT H G (tmps.getD i undef) (st.fr.get i)
theorem zlg {v:Value}{a:AV}(h:ofSc v=some a):a.scalar=true/\a.plain=true/\RepS H G v a:=by
 unfold ofSc at h
 split at h<;>first|(cases h;done)|skip
 . cases h;exact⟨rfl,rfl,.bool _⟩
 . cases h;exact⟨rfl,rfl,.int _ _⟩
 . cases h;exact⟨rfl,rfl,.str _⟩
 . cases h;exact⟨rfl,rfl,.lstE _ _ _ _ fun _=>rfl⟩
 . cases h;exact⟨rfl,rfl,.s _ rfl⟩
 . cases h;exact⟨rfl,rfl,.s _ rfl⟩
 . cases h;exact⟨rfl,rfl,.s _ rfl⟩
 . cases h;exact⟨rfl,rfl,.s _ rfl⟩
theorem zam {gl:Gl}{st:St}{a:Act}(hg:GlOk H G gl)(hst:StOk H G st a.tmps){x:Operand}{y:Opd}(h:zag x=some y) :
  RepT H G (a.eval x) (y.val gl st.fr):=by
 cases x with
 | tmp t=>simp[zag]at h;subst h;exact hst.fr t
 | const v =>
   simp only[zag,wB]at h
   obtain⟨b,hb,rfl⟩:=h
   obtain⟨h1,_,h2⟩:=zlg (H:=H) (G:=G) hb
   exact(zae h1).2 h2
 | global g =>
   simp[zag]at h;subst h
   simp only[Opd.val,Act.eval]
   cases hgl:gl.tbl g with
   | none=>trivial
   | some q =>
     obtain⟨sh,b⟩:=q
     obtain⟨h1,h2,h3,h4,c,e,fz,h5,h6⟩:=hg.tab g sh b hgl
     have hval:∀j,∃v,j<b.flat.length->c[0+j]? =some v/\(∀hj:j<b.flat.length,RepS H G v b.flat[j]):=fun j=>by
      by_cases hj:j<b.flat.length
      . obtain⟨v,hv,hr⟩:=h6 j hj;exact⟨v,fun _=>⟨hv,fun _=>hr⟩⟩
      . exact⟨undef,fun h=>absurd h hj⟩
     obtain⟨val,hval⟩:=Classical.axiomOfChoice hval
     exact(zae rfl).2 (.cp sh b g 0 c e fz h1 h5 ⟨h2,h3,h4⟩ val (fun j hj=>(hval j hj).1) (fun j hj=>(hval j hj).2 hj))
 | func f =>
   simp only[zag,Option.ite_none_right_eq_some,wC]at h;obtain⟨hb,rfl⟩:=h
   exact(zae rfl).2 (.fn _ f [] #[] (if_pos hb) rfl rfl (fun _=>undef) (fun i hi=>by simp at hi) (fun i hi=>by simp at hi))
theorem zgf {c:Array Value}{off:Nat}{l:List AV}(h:RepC H G c off l) :
  ∃val:Nat->Value,(∀j,j<l.length->c[off+j]? =some (val j))/\∀j (hj:j<l.length),RepS H G (val j) l[j]:=by
 have hval:∀j,∃v,j<l.length->c[off+j]? =some v/\(∀hj:j<l.length,RepS H G v l[j]):=fun j=>by
  by_cases hj:j<l.length
  . obtain⟨v,hv,hr⟩:=h j hj;exact⟨v,fun _=>⟨hv,fun _=>hr⟩⟩
  . exact⟨undef,fun h=>absurd h hj⟩
 obtain⟨val,hval⟩:=Classical.axiomOfChoice hval
 exact⟨val,fun j hj=>(hval j hj).1,fun j hj=>(hval j hj).2 hj⟩
theorem RepC.part {c:Array Value}{off:Nat}{l pre x post:List AV}(h:RepC H G c off l)(hl:l=pre++x++post):RepC H G c (off+pre.length) x:=by
 subst hl
 intro j hj
 obtain⟨v,hv,hr⟩:=h (pre.length+j) (by simp;omega)
 refine⟨v,by rw[Nat.add_assoc];exact hv,?_⟩
 have:(pre++x++post)[pre.length+j]'(by simp;omega)=x[j]:=by
  rw[wH (by simp;omega),wK (by omega)]
  simp
 rwa [this]at hr
end Go.Ev
namespace Go.Ev
open Go
def Good (P:Program)(w:World)(G:Gh)(hp:Hp)(s:Sem Next)(v:AV)(us:Hp):Prop :=
 ∃(v':Value) (w':World) (G':Gh),(w'.os=w.os/\w'.output=w.output)/\(s.run P w= .ok (.value v') w'\/(s.run P w= .ok .skip w'/\v'=undef)) /\
  Step w.heap G hp w'.heap G' (us++hp)/\RepT w'.heap G' v' v
variable {im :Im} {P:Program} {w:World} {G:Gh} {gl:Gl} {cl:Cl} {st:St} {a:Act} {o:Oper} {m:MOp} {v:AV} {us:Hp}
theorem zww {x:Operand}(hg:GlOk w.heap G gl)(hst:StOk w.heap G st a.tmps)(ho:o.op= .move x\/o.op= .assign x)(hc:zan P im o=some m)
  (hs:zaa gl cl st o.dst m=some (v,us)):Good P w G st.hp (execOp a.eval o) v us:=by
 have hc':(zag x).map MOp.mov=some m:=by rcases ho with ho|ho<;>simpa[zan,ho]using hc
 simp only[wB]at hc'
 obtain⟨y,hy,rfl⟩:=hc'
 simp only[zaa,wC,wU]at hs
 obtain⟨rfl,rfl⟩:=hs
 refine⟨a.eval x,w,G,⟨rfl,rfl⟩,.inl ?_,Step.refl hst.inv,zam hg hst hy⟩
 rcases ho with ho|ho<;>simp[execOp,ho]
theorem z3e {c x y:Operand}(hg:GlOk w.heap G gl)(hst:StOk w.heap G st a.tmps)(ho:o.op= .pick c x y)(hc:zan P im o=some m)
  (hs:zaa gl cl st o.dst m=some (v,us)):Good P w G st.hp (execOp a.eval o) v us:=by
 simp only[zan,ho,wD,wB]at hc
 obtain⟨c',hc',x',hx',y',hy',rfl⟩:=hc
 simp only[zaa]at hs
 split at hs
 . rename_i t ht
   have hv:=zam hg hst hc'
   rw[ht]at hv
   have hv:=zb7 hv
   simp only[wC,wU]at hs
   obtain⟨rfl,rfl⟩:=hs
   refine⟨if t then a.eval x else a.eval y,w,G,⟨rfl,rfl⟩,.inl ?_,Step.refl hst.inv,?_⟩
   . simp[execOp,ho,hv,asBool]
   . cases t
     . exact zam hg hst hy'
     . exact zam hg hst hx'
 . cases hs
theorem z27 {op:BinOp}{t:TypeId}{x y:Operand}{k k':IntKind}{m n:Int}:(eqGuard op t x y (.int k m) (.int k' n)).run P w= .ok () w:=by
 unfold eqGuard;split<;>rfl
theorem zyu {op:BinOp}{t:TypeId}{x y:Operand}{m n:Bool}:(eqGuard op t x y (.bool m) (.bool n)).run P w= .ok () w:=by
 unfold eqGuard;split<;>rfl
theorem z26 {op:BinOp}{t:TypeId}{x y:Operand}{m n:ByteArray}:(eqGuard op t x y (.string m) (.string n)).run P w= .ok () w:=by
 unfold eqGuard;split<;>rfl
def AV.val1 :AV->Value
 | .int k n=>.int k n
 | .bool b=>.bool b
 | .str l=>.string ⟨⟨l⟩⟩
 | _=>undef
theorem qex {op:BinOp}{t:TypeId}{k k':IntKind}{m n:Int}{r:AV}(h:zgu op (.int k m) (.int k' n)=some r) :
  (binOp op t (.int k m) (.int k' n)).run P w= .ok r.val1 w/\RepT w.heap G r.val1 r:=by
 by_cases hop:op= .shl\/op= .shr
 . rcases hop with rfl|rfl
   all_goals
    simp only[zgu,zbw]at h
    split at h
    . cases h
    . rename_i hn
      cases h
      exact⟨by simp[binOp,Op.shift,hn,AV.val1],zat _ _⟩
 . have hb:zgu op (.int k m) (.int k' n)=if k=k' then zar op k m n else none:=by
    cases op<;>simp_all[zgu]
   rw[hb]at h
   split at h
   . rename_i hk
     subst hk
     cases op<;>simp only[zar]at h
     all_goals first
      | (cases h;done)
      | (cases h;exact⟨by simp[binOp,Op.intArith,Op.intBits,Op.intCmp,AV.val1],by first|exact zat _ _|exact zb6 _⟩)
      | (split at h
         . cases h
         . rename_i hn
           cases h;exact⟨by simp[binOp,Op.intDiv,hn,AV.val1],zat _ _⟩)
   . cases h
theorem qew {op:BinOp}{t:TypeId}{l m:List UInt8}{r:AV}(h:zgu op (.str l) (.str m)=some r) :
  (binOp op t (.string ⟨⟨l⟩⟩) (.string ⟨⟨m⟩⟩)).run P w= .ok r.val1 w/\RepT w.heap G r.val1 r:=by
 cases op<;>simp only[zgu,zoz]at h<;>(try (split at h))<;>(try (cases h;done))
 all_goals first
  | (cases h;exact⟨by simp[binOp,Op.stringOp,AV.val1],zb6 _⟩)
  | skip
 . rename_i hl
   cases h
   refine⟨?_,ze0 _⟩
   simp only[binOp,Op.stringOp]
   rw[if_neg]
   . simp only[Sem.run_pure,AV.val1]
     congr 2
   . simp[IntKind.max,IntKind.signed,IntKind.bits,ByteArray.size,LIM]at hl ⊢;omega
theorem zk0 {d:Nat}{t:TypeId}{x y:Bool}(ht:P.underlying t=some .bool):(Op.equalIn (d+1) t (.bool x) (.bool y)).run P w= .ok (x==y) w:=by
 simp only[Op.equalIn,Sem.run_bind,zaj ht,Result.andThen_ok,Sem.run_pure]
theorem zop {t:TypeId}{x y:Bool}(ht:P.underlying t=some .bool):(Op.equal t (.bool x) (.bool y)).run P w= .ok (x==y) w:=zk0 (d:=9999) ht
theorem z89 {op:BinOp}{t:TypeId}{x y:Bool}{r:AV}(ht:P.underlying t=some .bool)(h:z5d op (.bool x) (.bool y)=some r) :
  (binOp op t (.bool x) (.bool y)).run P w= .ok r.val1 w/\RepT w.heap G r.val1 r:=by
 cases op<;>simp only[z5d]at h<;>(try (cases h;done))
 . cases h;exact⟨by simp only[binOp,Sem.run_bind,zop ht,Result.andThen_ok,Sem.run_pure,AV.val1],zb6 _⟩
 . cases h;exact⟨by simp only[binOp,Sem.run_bind,zop ht,Result.andThen_ok,Sem.run_pure,AV.val1],zb6 _⟩
theorem zwy {bop:BinOp}{t yt:TypeId}{x y:Operand}{x' y':Opd}(hg:GlOk w.heap G gl)(hst:StOk w.heap G st a.tmps)(ho:o.op= .binOp bop t x y yt)
  (hx:zag x=some x') (hy:zag y=some y')
  (hs:zaa gl cl st o.dst (.bin bop x' y')=some (v,us)):Good P w G st.hp (execOp a.eval o) v us:=by
 have hvx:=zam hg hst hx
 have hvy:=zam hg hst hy
 simp only[zaa,wB]at hs
 obtain⟨r,hr,hs⟩:=hs
 simp only[wU]at hs
 obtain⟨rfl,rfl⟩:=hs
 have key:∃vx vy,a.eval x=vx/\a.eval y=vy/\(eqGuard bop t x y vx vy).run P w= .ok () w/\(binOp bop t vx vy).run P w= .ok r.val1 w/\RepT w.heap G r.val1 r:=by
  cases hx1:x'.val gl st.fr<;>cases hy1:y'.val gl st.fr<;>simp only[hx1,hy1]at hr hvx hvy<;>(try (simp only[zgu]at hr;cases hr;done))
  . exact⟨_,_,zas hvx,zas hvy,z27,qex hr⟩
  . exact⟨_,_,zdh hvx,zdh hvy,z26,qew hr⟩
 obtain⟨vx,vy,h1,h2,h3,h4,h5⟩:=key
 exact⟨_,w,G,⟨rfl,rfl⟩,.inl (by simp[execOp,ho,h1,h2,h3,h4]),Step.refl hst.inv,h5⟩
theorem z3q {bop:BinOp}{t yt:TypeId}{x y:Operand}{x' y':Opd}(hg:GlOk w.heap G gl)(hst:StOk w.heap G st a.tmps)(ho:o.op= .binOp bop t x y yt)
  (hx:zag x=some x') (hy:zag y=some y') (ht:P.underlying t=some .bool)
  (hs:zaa gl cl st o.dst (.binB bop x' y')=some (v,us)):Good P w G st.hp (execOp a.eval o) v us:=by
 have hvx:=zam hg hst hx
 have hvy:=zam hg hst hy
 simp only[zaa,wB]at hs
 obtain⟨r,hr,hs⟩:=hs
 simp only[wU]at hs
 obtain⟨rfl,rfl⟩:=hs
 have key:∃vx vy,a.eval x=vx/\a.eval y=vy/\(eqGuard bop t x y vx vy).run P w= .ok () w/\(binOp bop t vx vy).run P w= .ok r.val1 w/\RepT w.heap G r.val1 r:=by
  cases hx1:x'.val gl st.fr<;>cases hy1:y'.val gl st.fr<;>simp only[hx1,hy1]at hr hvx hvy<;>(try (simp only[z5d]at hr;cases hr;done))
  exact⟨_,_,zb7 hvx,zb7 hvy,zyu,z89 ht hr⟩
 obtain⟨vx,vy,h1,h2,h3,h4,h5⟩:=key
 exact⟨_,w,G,⟨rfl,rfl⟩,.inl (by simp[execOp,ho,h1,h2,h3,h4]),Step.refl hst.inv,h5⟩
theorem qdw {u:UnOp}{t:TypeId}{x:Operand}(hg:GlOk w.heap G gl)(hst:StOk w.heap G st a.tmps)(ho:o.op= .unOp u t x)(hc:zan P im o=some m)
  (hs:zaa gl cl st o.dst m=some (v,us)):Good P w G st.hp (execOp a.eval o) v us:=by
 simp only[zan,ho,wB]at hc
 obtain⟨x',hx,rfl⟩:=hc
 have hvx:=zam hg hst hx
 simp only[zaa]at hs
 split at hs
 . rename_i k n hv
   rw[hv]at hvx
   simp only[wC,wU]at hs
   obtain⟨rfl,rfl⟩:=hs
   exact⟨_,w,G,⟨rfl,rfl⟩,.inl (by simp[execOp,ho,zas hvx,Op.unary,Op.intArith]),Step.refl hst.inv,zat _ _⟩
 . rename_i k n hv
   rw[hv]at hvx
   simp only[wC,wU]at hs
   obtain⟨rfl,rfl⟩:=hs
   exact⟨_,w,G,⟨rfl,rfl⟩,.inl (by simp only[execOp,ho,zas hvx,Op.unary,Op.intBits,Sem.run_bind,Sem.run_pure,Result.andThen_ok]),Step.refl hst.inv,zat _ _⟩
 . rename_i b hv
   rw[hv]at hvx
   simp only[wC,wU]at hs
   obtain⟨rfl,rfl⟩:=hs
   exact⟨_,w,G,⟨rfl,rfl⟩,.inl (by simp[execOp,ho,zb7 hvx,Op.unary]),Step.refl hst.inv,zb6 _⟩
 . cases hs
end Go.Ev
namespace Go.Ev
open Go
variable {im :Im} {P:Program} {w:World} {G:Gh} {gl:Gl} {cl:Cl} {st:St} {a:Act} {o:Oper} {m:MOp} {v:AV} {us:Hp}
theorem z3o {s d:TypeId}{k k0:IntKind}{x:Operand}{x':Opd}(hg:GlOk w.heap G gl)(hst:StOk w.heap G st a.tmps)(ho:o.op= .convert s d x)
  (hx:zag x=some x') (h1:P.underlying s=some (.int k0)) (h2:P.underlying d=some (.int k))
  (hs:zaa gl cl st o.dst (.conv k x')=some (v,us)):Good P w G st.hp (execOp a.eval o) v us:=by
 have hvx:=zam hg hst hx
 simp only[zaa]at hs
 split at hs
 . rename_i k' n hv
   rw[hv]at hvx
   simp only[wC,wU]at hs
   obtain⟨rfl,rfl⟩:=hs
   exact⟨_,w,G,⟨rfl,rfl⟩,.inl (by simp[execOp,ho,zas hvx,convert,zaj h1,zaj h2,Conv.intToInt]),Step.refl hst.inv,zat _ _⟩
 . cases hs
theorem z3c {s d:TypeId}{x:Operand}{x':Opd}(hg:GlOk w.heap G gl)(hst:StOk w.heap G st a.tmps)(ho:o.op= .convert s d x)
  (hx:zag x=some x') (h1:P.underlying s=some .string) (h2:P.underlying d=some .string)
  (hs:zaa gl cl st o.dst (.strc x')=some (v,us)):Good P w G st.hp (execOp a.eval o) v us:=by
 have hvx:=zam hg hst hx
 simp only[zaa]at hs
 split at hs
 . rename_i l hv
   rw[hv]at hvx
   simp only[wC,wU]at hs
   obtain⟨rfl,rfl⟩:=hs
   exact⟨_,w,G,⟨rfl,rfl⟩,.inl (by simp[execOp,ho,zdh hvx,convert,zaj h1,zaj h2]),Step.refl hst.inv,ze0 _⟩
 . cases hs
theorem z3m {x:Operand}{i:Nat}(hg:GlOk w.heap G gl)(hst:StOk w.heap G st a.tmps)(ho:o.op= .extract x i)(hc:zan P im o=some m)
  (hs:zaa gl cl st o.dst m=some (v,us)):Good P w G st.hp (execOp a.eval o) v us:=by
 simp only[zan,ho,wB]at hc
 obtain⟨x',hx,rfl⟩:=hc
 have hvx:=zam hg hst hx
 simp only[zaa]at hs
 split at hs
 . rename_i l hv
   rw[hv]at hvx
   obtain⟨vs,hv1,hv2,hv3⟩:=hvx
   simp only[wB]at hs
   obtain⟨r,hr,hs⟩:=hs
   simp only[wU]at hs
   obtain⟨rfl,rfl⟩:=hs
   obtain⟨hi,rfl⟩:=wL.1 hr
   have hi':i<vs.size:=by omega
   refine⟨vs[i],w,G,⟨rfl,rfl⟩,.inl ?_,Step.refl hst.inv,?_⟩
   . simp[execOp,ho,hv1,Instr.extract,hi']
   . exact(RepT.of_known (hv3 i hi' hi).known).2 (hv3 i hi' hi)
 . cases hs
theorem zy4 {x:Operand}(hg:GlOk w.heap G gl)(hst:StOk w.heap G st a.tmps)(ho:o.op= .nilCheck x)(hc:zan P im o=some m)
  (hs:zaa gl cl st o.dst m=some (v,us)):Good P w G st.hp (execOp a.eval o) v us:=by
 simp only[zan,ho,wB]at hc
 obtain⟨x',hx,rfl⟩:=hc
 have hvx:=zam hg hst hx
 simp only[zaa]at hs
 split at hs
 . rename_i k p hv
   rw[hv]at hvx
   simp only[wC,wU]at hs
   obtain⟨rfl,rfl⟩:=hs
   have h:=hvx
   rw[zae rfl]at h
   cases h':a.eval x<;>rw[h']at h hvx<;>cases h
   exact⟨_,w,G,⟨rfl,rfl⟩,.inl (by simp[execOp,ho,h']),Step.refl hst.inv,hvx⟩
 . rename_i sh b hv
   rw[hv]at hvx
   simp only[wC,wU]at hs
   obtain⟨rfl,rfl⟩:=hs
   have h:=hvx
   rw[zae rfl]at h
   cases h':a.eval x<;>rw[h']at h hvx<;>cases h
   exact⟨_,w,G,⟨rfl,rfl⟩,.inl (by simp[execOp,ho,h']),Step.refl hst.inv,hvx⟩
 . cases hs
theorem zd2 {H:Heap}{v:Value}{full:Bool}{sh:Sh}{l:List AV}(h:RepS H G v (.lst full sh l)) :
  ∃b cap,v= .slice b l.length cap/\l.length<=cap/\(full=true->cap=l.length)/\(∀x∈l,zap sh x=true/\x.plain=true/\x.wf) /\
   (l=[]\/∃k off c e fz,b=some ⟨k,off,none⟩/\G.imm k/\H[k]? =some (.cells c e fz)/\RepC H G c off (AV.flats l)):=by
 cases h with
 | lstE _ _ a cap h=>exact⟨a,cap,rfl,by simp,fun hf=>by simpa using h hf,by simp,.inl rfl⟩
 | lst _ _ _ b off len cap c e fz hi hb hl hc hf hsh val hv hr =>
   subst hl
   exact⟨_,cap,rfl,hc,hf,hsh,.inr ⟨b,off,c,e,fz,rfl,hi,hb,fun j hj=>⟨val j,hv j hj,hr j hj⟩⟩⟩
theorem zli {H:Heap}{full:Bool}{sh:Sh}{l:List AV}{b:Option Addr}{cap:Nat}(h1:l.length<=cap)(h2:full=true->cap=l.length)
  (h3:∀x∈l,zap sh x=true/\x.plain=true/\x.wf)
  (h4:l=[]\/∃k off c e fz,b=some ⟨k,off,none⟩/\G.imm k/\H[k]? =some (.cells c e fz)/\RepC H G c off (AV.flats l)) :
  RepS H G (.slice b l.length cap) (.lst full sh l):=by
 rcases h4 with rfl|⟨k,off,c,e,fz,rfl,h5,h6,h7⟩
 . exact .lstE _ _ _ _ fun hf=>by simpa using h2 hf
 . obtain⟨val,hv,hr⟩:=zgf h7
   exact .lst full sh l k off _ cap c e fz h5 h6 rfl h1 h2 h3 val hv hr
theorem zbn {H:Heap}{v:Value}{k:Nat}{p:List Nat}{off len:Nat}(h:RepS H G v (.sl k p off len)) :
  (∃a,p=[]/\off=0/\len=0/\v= .slice a 0 0/\G.reg k=some .nil) \/
  ∃b root m e o x,G.reg k=some (.blk b root)/\root.sub p=some (.ar m e)/\root.off p=some o/\off+len<=m/\v= .slice (some ⟨b,x,none⟩) len (m-off) /\
   (off<m->x=o+off*e.size):=by
 cases h with
 | sl _ _ _ _ b root m e o hr hs ho hle=>exact .inr ⟨b,root,m,e,o,_,hr,hs,ho,hle,rfl,fun _=>rfl⟩
 | slZ _ _ _ b x root m e hr hs ho =>
   subst ho
   obtain⟨o,ho⟩:=zj4 hs
   exact .inr ⟨b,root,off,e,o,x,hr,hs,ho,by omega,by simp,fun h=>absurd h (Nat.lt_irrefl _)⟩
 | slNil _ a hr=>exact .inl ⟨a,rfl,rfl,rfl,rfl,hr⟩
theorem zpt {H:Heap}{v:Value}{sh:Sh}{b:AV}(h:RepS H G v (.cp sh b)) :
  ∃k off c e fz,v= .pointer (some ⟨k,off,none⟩)/\G.imm k/\H[k]? =some (.cells c e fz)/\RepC H G c off b.flat/\zap sh b=true/\b.plain=true/\b.wf:=by
 cases h with
 | cp _ _ k off c e fz hi hb hsh val hv hr=>exact⟨k,off,c,e,fz,rfl,hi,hb,fun j hj=>⟨val j,hv j hj,hr j hj⟩,hsh⟩
theorem zm5 {H:Heap}{sh:Sh}{b:AV}{k off:Nat}{c:Array Value}{e:TypeId}{fz:Nat×Nat}(hi:G.imm k)(hb:H[k]? =some (.cells c e fz))(hc:RepC H G c off b.flat)
  (hsh:zap sh b=true) (hp:b.plain=true) (hw:b.wf):RepS H G (.pointer (some ⟨k,off,none⟩)) (.cp sh b) :=
 let ⟨val,hv,hr⟩:=zgf hc
 .cp sh b k off c e fz hi hb ⟨hsh,hp,hw⟩ val hv hr
theorem zhn {H:Heap}{v:Value}{k:Nat}{p:List Nat}(h:RepS H G v (.ptr k p)) :
  ∃b root off,v= .pointer (some ⟨b,off,none⟩)/\G.reg k=some (.blk b root)/\root.off p=some off:=by
 cases h with
 | ptr _ _ b root off hr ho=>exact⟨b,root,off,rfl,hr,ho⟩
theorem z6r {H:Heap}{v:Value}{k:Nat}{p:List Nat}{off n:Nat}(h:RepS H G v (.arp k p off n)) :
  ∃b root m e o,v= .pointer (some ⟨b,o+off*e.size,none⟩)/\G.reg k=some (.blk b root)/\root.sub p=some (.ar m e)/\root.off p=some o/\off+n<=m:=by
 cases h with
 | arp _ _ _ _ b root m e o hr hs ho hle=>exact⟨b,root,m,e,o,rfl,hr,hs,ho,hle⟩
end Go.Ev
namespace Go.Ev
open Go
variable {im :Im} {P:Program} {w:World} {H:Heap} {G:Gh} {gl:Gl} {cl:Cl} {st:St} {a:Act} {o:Oper} {m:MOp} {v:AV} {us:Hp}
theorem zed {n:Nat}{l:List AV}(h:∀x∈l,x.flat.length=n)(off cnt:Nat)(hle:off+cnt<=l.length) :
  AV.flats l=AV.flats (l.take off)++AV.flats (sub l off cnt)++AV.flats (l.drop (off+cnt))/\(AV.flats (l.take off)).length=off*n/\(AV.flats (sub l off cnt)).length=cnt*n:=by
 have e:l=l.take off++sub l off cnt++l.drop (off+cnt):=by
  unfold sub
  rw[wJ,<-List.drop_drop,wN,wN]
 refine⟨?_,?_,?_⟩
 . conv=>lhs;rw[e]
   rw[AV.flats_append,AV.flats_append]
 . rw[za1 _ (fun x hx=>h x (wM hx))];rw[wR,wW (by omega)]
 . unfold sub;rw[za1 _ (fun x hx=>h x (wO (wM hx))),wR,List.length_drop,wW (by omega)]
theorem zi3 {hp:Hp}{k:Nat}{p:List Nat}{sh s root:Sh}{b off:Nat}{x y:AV}(inv:Inv H G hp)(hk:hp.get k=some (.fix sh x))
  (hr:G.reg k=some (.blk b root)) (ho:root.off p=some off) (hs:sh.sub p=some s) (hn:x.nav p=some y) :
  root=sh/\zap s y=true/\y.wf/\(x.plain=true->y.plain=true)/\∃c e fz,H[b]? =some (.cells c e fz)/\free c fz/\c.size=sh.size/\RepC H G c off y.flat:=by
 obtain⟨b',c,e,fz,hr',hb,hsz,hf,hsh,hw,hc⟩:=inv.obs k _ hk
 rw[hr]at hr'
 simp only[wC,Rg.blk.injEq]at hr'
 obtain⟨rfl,rfl⟩:=hr'
 obtain⟨y',o',pre,post,hn',ho',hy,hfl,hl,hwf,hpl,_⟩:=zd8 p root x s hsh hs
 rw[hn]at hn';cases hn'
 rw[ho]at ho';cases ho'
 refine⟨rfl,hy,hwf hw,fun hp=>hpl hp hw,c,e,fz,hb,hf,hsz,?_⟩
 have:=hc.part hfl
 rwa [hl,wV]at this
theorem zyc {hp:Hp}{k i:Nat}{q:List Nat}{sh s root:Sh}{b off:Nat}{els:List AV}{z y:AV}(inv:Inv H G hp)(hk:hp.get k=some (.grow sh els))
  (hr:G.reg k=some (.blk b root)) (ho:root.off (i::q)=some off) (hs:sh.sub q=some s) (hz:els[i]? =some z) (hn:z.nav q=some y) :
  zap s y=true/\y.wf/\y.plain=true/\∃c e fz,H[b]? =some (.cells c e fz)/\free c fz/\RepC H G c off y.flat:=by
 rcases inv.obs k _ hk with ⟨h1,_⟩|⟨b',cap,c,e,fz,hr',hle,hb,hsz,hf,hsh,hc⟩
 . subst h1;simp at hz
 rw[hr]at hr'
 simp only[wC,Rg.blk.injEq]at hr'
 obtain⟨rfl,rfl⟩:=hr'
 have hm:=wP hz
 obtain⟨hz1,hz2,hz3⟩:=hsh z hm
 obtain⟨y',o',pre,post,hn',ho',hy,hfl,hl,hwf,hpl,_⟩:=zd8 q sh z s hz1 hs
 rw[hn]at hn';cases hn'
 have hi:i<els.length:=(wL.1 hz).1
 simp only[Sh.off,show i<cap by omega,if_true,ho',wE,wC]at ho
 subst ho
 obtain⟨pre',post',h1,h2,_⟩:=zby (fun x hx=>zaf sh x (hsh x hx).1) hz
 refine⟨hy,hwf hz3,hpl hz2 hz3,c,e,fz,hb,hf.free,?_⟩
 have:=hc.part (pre:=pre'++pre) (x:=y.flat) (post:=post++post') (by rw[h1,hfl];simp[wJ])
 simp only[wQ,h2,hl,wV]at this
 exact this
theorem zwd {ag:Bool}{n:Nat}{x':Opd}{vx:Value}{d:Option Nat}(inv:Inv H G st.hp)(hvx:RepT H G vx (Opd.val gl st.fr x'))(hs:zaa gl cl st d (.load ag n x')=some (v,us)) :
  ∃(b off:Nat) (c:Array Value) (e:TypeId) (fz:Nat×Nat),vx= .pointer (some ⟨b,off,none⟩)/\us=[]/\H[b]? =some (.cells c e fz) /\
   RepC H G c off v.flat/\v.known=true/\v.wf/\v.isAgg=ag/\v.flat.length=n:=by
 simp only[zaa]at hs
 cases hv:Opd.val gl st.fr x' with
 | ptr k p =>
   rw[hv,zae rfl]at hvx
   obtain⟨b,root,off,hev,hr,hof⟩:=zhn hvx
   simp only[hv]at hs
   cases hk:st.hp.get k with
   | none=>simp[hk]at hs
   | some ob =>
     cases ob with
     | dead=>simp[hk]at hs
     | lp _ _ _=>simp[hk]at hs
     | mp _ _=>simp[hk]at hs
     | fix sh z =>
       simp only[hk]at hs
       split at hs
       . rename_i s y hsub hnav
         split at hs
         . rename_i hcond
           simp only[wC,wU]at hs
           obtain⟨rfl,rfl⟩:=hs
           obtain⟨_,hy,hw,_,c,e,fz,hb,_,_,hrc⟩:=zi3 inv hk hr hof hsub hnav
           exact⟨b,off,c,e,fz,hev,rfl,hb,hrc,zbq hy,hw,hcond.2,by rw[zaf s _ hy,hcond.1]⟩
         . cases hs
       . cases hs
     | grow sh els =>
       cases p with
       | nil=>simp[hk]at hs
       | cons i q =>
         simp only[hk]at hs
         split at hs
         . rename_i s y hsub hnav
           split at hs
           . rename_i hcond
             simp only[wC,wU]at hs
             obtain⟨rfl,rfl⟩:=hs
             simp only[wD]at hnav
             obtain⟨z,hz,hnav⟩:=hnav
             obtain⟨hy,hw,_,c,e,fz,hb,_,hrc⟩:=zyc inv hk hr hof hsub hz hnav
             exact⟨b,off,c,e,fz,hev,rfl,hb,hrc,zbq hy,hw,hcond.2,by rw[zaf s _ hy,hcond.1]⟩
           . cases hs
         . cases hs
 | cp sh b0 =>
   rw[hv,zae rfl]at hvx
   simp only[hv]at hs
   split at hs
   . rename_i hcond
     simp only[wC,wU]at hs
     obtain⟨rfl,rfl⟩:=hs
     obtain⟨b,off,c,e,fz,hev,_,hb,hrc,h1,_,h3⟩:=zpt hvx
     exact⟨b,off,c,e,fz,hev,rfl,hb,hrc,zbq h1,h3,hcond.2,by rw[zaf sh _ h1,hcond.1]⟩
   . cases hs
 | arp k p off cnt =>
   rw[hv,zae rfl]at hvx
   simp only[hv]at hs
   cases hk:st.hp.get k with
   | none=>simp[hk]at hs
   | some ob =>
     cases ob with
     | dead=>simp[hk]at hs
     | lp _ _ _=>simp[hk]at hs
     | mp _ _=>simp[hk]at hs
     | grow sh els=>simp[hk]at hs
     | fix sh z =>
       simp only[hk]at hs
       split at hs
       . rename_i n' e' l hsub hnav
         split at hs
         . rename_i hcond
           simp only[wC,wU]at hs
           obtain⟨rfl,rfl⟩:=hs
           obtain⟨b,root,m',e,o',hev,hr,hsub',hof,_⟩:=z6r hvx
           obtain⟨rfl,hy,hw,_,c,e1,fz,hb,_,_,hrc⟩:=zi3 inv hk hr hof hsub hnav
           rw[hsub]at hsub'
           simp only[wC,Sh.ar.injEq]at hsub'
           obtain⟨rfl,rfl⟩:=hsub'
           rw[zbm]at hy
           simp only[wF,beq_iff_eq,wS]at hy
           obtain⟨f1,f2,f3⟩:=zed (n:=e'.size) (l:=l) (fun q hq=>zaf e' q (hy.2 q hq)) off cnt hcond.2.2
           refine⟨b,o'+off*e'.size,c,e1,fz,hev,rfl,hb,?_,rfl,?_,?_,?_⟩
           . have:=hrc.part (by rw[AV.flat];exact f1)
             rwa [f2]at this
           . simp only[AV.wf,AV.wfp_iff]at hw ⊢
             exact fun q hq=>hw q (wO (wM hq))
           . rw[hcond.1];rfl
           . simp only[AV.flat];rw[f3,hcond.2.1]
         . cases hs
       . cases hs
 | _=>simp[hv]at hs
theorem z3k {t:TypeId}{x:Operand}(hg:GlOk w.heap G gl)(hst:StOk w.heap G st a.tmps)(ho:o.op= .load t x)(hc:zan P im o=some m)
  (hs:zaa gl cl st o.dst m=some (v,us)):Good P w G st.hp (execOp a.eval o) v us:=by
 simp only[zan,ho,wD,wB]at hc
 obtain⟨sT,hsT,x',hx,rfl⟩:=hc
 have hvx:=zam hg hst hx
 obtain⟨b,off,c,e,fz,hev,rfl,hb,hrc,hk,hw,hag,hn⟩:=zwd hst.inv hvx hs
 obtain⟨val,hval,hrv⟩:=zgf hrc
 refine⟨_,w,G,⟨rfl,rfl⟩,.inl ?_,Step.refl hst.inv,(RepT.of_known hk).2 (zl3 hk hw hrv)⟩
 simp[execOp,ho,hev,Instr.loadAt,Instr.sureAddr,zlw hsT hag hn hb hval hk]
end Go.Ev
namespace Go.Ev
open Go
variable {im :Im} {P:Program} {w:World} {H:Heap} {G:Gh} {gl:Gl} {cl:Cl} {st:St} {a:Act} {o:Oper} {m:MOp} {v:AV} {us:Hp}
theorem zle {c:Array Value}{off:Nat}{vs:List Value}{l pre old new post:List AV}(h:RepC H G c 0 l)(hl:l=pre++old++post)(hv:RepL H G vs new)
  (hn:new.length=old.length) (hp:pre.length=off) (hle:off+vs.length<=c.size):RepC H G (zav c off vs) 0 (pre++new++post):=by
 subst hl
 have hvl:=hv.len
 intro j hj
 simp only[wQ]at hj
 simp only[wV]
 rw[zg4 vs off c j hle]
 by_cases h1:j<off
 . rw[if_neg (by omega)]
   obtain⟨x,hx,hr⟩:=h j (by simp;omega)
   refine⟨x,by simpa using hx,?_⟩
   have e1:(pre++old++post)[j]'(by simp;omega)=pre[j]:=by rw[wH (by simp;omega),wH (by omega)]
   have e2:(pre++new++post)[j]'(by simp;omega)=pre[j]:=by rw[wH (by simp;omega),wH (by omega)]
   rw[e2];rwa [e1]at hr
 . by_cases h2:j<off+vs.length
   . rw[if_pos ⟨by omega,h2⟩]
     have hj':j-off<vs.length:=by omega
     refine⟨vs[j-off],by simp[hj'],?_⟩
     have e2:(pre++new++post)[j]'(by simp;omega)=new[j-off]'(by omega):=by
      rw[wH (by simp;omega),wK (by omega)]
      congr 1;omega
     rw[e2];exact hv.get (j-off) hj' (by omega)
   . rw[if_neg (by omega)]
     obtain⟨x,hx,hr⟩:=h j (by simp;omega)
     refine⟨x,by simpa using hx,?_⟩
     have e1:(pre++old++post)[j]'(by simp;omega)=post[j-(pre.length+old.length)]'(by omega):=by
      rw[wK (by simp;omega)];simp
     have e2:(pre++new++post)[j]'(by simp;omega)=post[j-(pre.length+old.length)]'(by omega):=by
      rw[wK (by simp;omega)];simp[hn]
     rw[e2];rwa [e1]at hr
theorem za8 {b b':Nat}{x:Obj}(h:b'≠b):(H.setIfInBounds b x)[b']? =H[b']? :=by
 rw[Array.getElem?_setIfInBounds_ne (Ne.symm h)]
theorem zbs {b:Nat}{x y:Obj}(h:H[b]? =some y):(H.setIfInBounds b x)[b]? =some x:=by
 obtain⟨hlt,_⟩:=Array.getElem?_eq_some_iff.1 h
 exact Array.getElem?_setIfInBounds_self_of_lt hlt
theorem zy0 {t:TypeId}{q x:Operand}(hg:GlOk w.heap G gl)(hst:StOk w.heap G st a.tmps)(ho:o.op= .store t q x)(hc:zan P im o=some m)
  (hs:zaa gl cl st o.dst m=some (v,us)):Good P w G st.hp (execOp a.eval o) v us:=by
 simp only[zan,ho,wD,wB]at hc
 obtain⟨sT,hsT,q',hq,x',hx,rfl⟩:=hc
 have hvq:=zam hg hst hq
 have hvx:=zam hg hst hx
 simp only[zaa]at hs
 cases hv:Opd.val gl st.fr q' with
 | ptr k p =>
   rw[hv,zae rfl]at hvq
   obtain⟨b,root,off,hev,hr,hof⟩:=zhn hvq
   simp only[hv]at hs
   cases hk:st.hp.get k with
   | none=>simp[hk]at hs
   | some ob =>
     cases ob with
     | dead=>simp[hk]at hs
     | lp _ _ _=>simp[hk]at hs
     | mp _ _=>simp[hk]at hs
     | fix sh z =>
       simp only[hk]at hs
       split at hs
       . rename_i s hsub
         split at hs
         . rename_i hcond
           obtain⟨hn,hsx⟩:=hcond
           simp only[wB,wU]at hs
           obtain⟨z',hz',rfl,rfl⟩:=hs
           have hkn:=zbq hsx
           rw[RepT.of_known hkn]at hvx
           obtain⟨vs,hvs,hrl,hpk,h1⟩:=hvx.cells
           obtain⟨b',c,e,fz,hr',hb,hsz,hf,hsh,hw,hrc⟩:=hst.inv.obs k _ hk
           rw[hr]at hr'
           simp only[wC,Rg.blk.injEq]at hr'
           obtain⟨rfl,rfl⟩:=hr'
           obtain⟨y,o',pre,post,hn',ho',hy,hfl,hl,hwf,hpl,hset⟩:=zd8 p root z s hsh hsub
           rw[hof]at ho';cases ho'
           obtain⟨z'',hz'',hsh',hfl',hwf',_⟩:=hset _ hsx
           rw[hz']at hz'';cases hz''
           have hvl:vs.length=s.size:=by rw[hrl.len,zaf s _ hsx]
           have hyl:=zaf s y hy
           have hcl:z.flat.length=root.size:=zaf root z hsh
           have hle:off+vs.length<=c.size:=by
            rw[hsz,<-hcl,hfl];simp[hl,hvl,hyl]
           refine⟨undef,{w with heap:=w.heap.setIfInBounds b (.cells (zav c off vs) e fz)},G,⟨rfl,rfl⟩,.inr ⟨?_,rfl⟩,?_,trivial⟩
           . simp only[execOp,ho,hev,Instr.storeAt,Instr.sureAddr,Sem.run_bind,Sem.run_pure,Result.andThen_ok]
             rw[zks hsT hvs (by rw[hvl,hn]) hb hf hle h1];rfl
           . refine zck hst.inv hk _ _ (by simp) (fun b' hb'=>za8 fun e=>hb' ⟨root,.of (e▸hr),⟨_,hk,by simp⟩⟩) (fun _=>by simp) fun le=> ?_
             refine⟨b,_,e,fz,hr,zbs hb,by simp[zau,hsz],?_,hsh',hwf' hw hvx.wf,?_⟩
             . unfold free at hf ⊢;rw[zau];exact hf
             . rw[hfl']
               exact(zle (hrc) hfl hrl (by rw[zaf s _ hsx,hyl]) hl hle).mono le
         . cases hs
       . cases hs
     | grow sh els =>
       cases p with
       | nil=>simp[hk]at hs
       | cons i q2 =>
         simp only[hk]at hs
         split at hs
         . rename_i s z hsub hz
           split at hs
           . rename_i hcond
             obtain⟨hn,hsx,hpx⟩:=hcond
             simp only[wB,wU]at hs
             obtain⟨z',hz',rfl,rfl⟩:=hs
             have hkn:=zbq hsx
             rw[RepT.of_known hkn]at hvx
             obtain⟨vs,hvs,hrl,hpk,h1⟩:=hvx.cells
             rcases hst.inv.obs k _ hk with ⟨h0,_⟩|⟨b',cap,c,e,fz,hr',hle0,hb,hsz,hf,hsh,hrc⟩
             . subst h0;simp at hz
             rw[hr]at hr'
             simp only[wC,Rg.blk.injEq]at hr'
             obtain⟨rfl,rfl⟩:=hr'
             obtain⟨hz1,hz2,hz3⟩:=hsh z (wP hz)
             obtain⟨y,o',pre,post,hn',ho',hy,hfl,hl,hwf,hpl,hset⟩:=zd8 q2 sh z s hz1 hsub
             have hi:i<els.length:=(wL.1 hz).1
             simp only[Sh.off,show i<cap by omega,if_true,ho',wE,wC]at hof
             subst hof
             obtain⟨pre',post',g1,g2,g3⟩:=zby (fun x hx=>zaf sh x (hsh x hx).1) hz
             obtain⟨z'',hz'',hsh',hfl',hwf',hpl'⟩:=hset _ hsx
             rw[hz']at hz'';cases hz''
             have hvl:vs.length=s.size:=by rw[hrl.len,zaf s _ hsx]
             have hyl:=zaf s y hy
             have hel:(AV.flats els).length=els.length*sh.size:=za1 els (fun x hx=>zaf sh x (hsh x hx).1)
             have hle:i*sh.size+o'+vs.length<=c.size:=by
              have h2:(AV.flats els).length<=c.size:=by rw[hel,hsz];exact Nat.mul_le_mul_right _ hle0
              rw[g1,hfl]at h2
              simp[g2,hl,hyl]at h2
              omega
             refine⟨undef,{w with heap:=w.heap.setIfInBounds b (.cells (zav c (i*sh.size+o') vs) e fz)},G,⟨rfl,rfl⟩,.inr ⟨?_,rfl⟩,?_,trivial⟩
             . simp only[execOp,ho,hev,Instr.storeAt,Instr.sureAddr,Sem.run_bind,Sem.run_pure,Result.andThen_ok]
               rw[zks hsT hvs (by rw[hvl,hn]) hb hf.free hle h1];rfl
             . refine zck hst.inv hk _ _ (by simp) (fun b' hb'=>za8 fun e=>hb' ⟨_,.of (e▸hr),⟨_,hk,by simp⟩⟩) (fun _=>by simp) fun le=> ?_
               refine .inr ⟨b,cap,_,e,fz,hr,by simpa using hle0,zbs hb,by simp[zau,hsz],?_,?_,?_⟩
               . exact hf.put (zau ..)
               . intro x hx
                 rcases List.mem_or_eq_of_mem_set hx with hx|rfl
                 . exact hsh x hx
                 . exact⟨hsh',hpl' hz2 hz3 hpx,hwf' hz3 hvx.wf⟩
               . rw[g3 z',hfl']
                 have:=zle (old:=y.flat) (pre:=pre'++pre) (post:=post++post') hrc (by rw[g1,hfl];simp[wJ]) hrl (by rw[zaf s _ hsx,hyl])
                  (by simp[g2,hl]) hle
                 have:=this.mono le
                 simpa[wJ]using this
           . cases hs
         . cases hs
 | _=>simp[hv]at hs
mutual
theorem zq4 :∀(sh:Sh) (vs:List Value) (x:AV) (r:List Value),avOf sh vs=some (x,r) ->
  ∃us,vs=us++r/\zap sh x=true/\x.plain=true/\x.wf/\∀(H:Heap) (G:Gh),RepL H G us x.flat
 | .sc,[],x,r,h=>by simp[avOf]at h
 | .sc,v::vs,x,r,h=>by
   simp only[avOf,wB,wU]at h
   obtain⟨y,hy,rfl,rfl⟩:=h
   obtain⟨h1,h2,_⟩:=zlg (H:= #[]) (G:=⟨fun _=>False,fun _=>none,fun _=>none⟩) hy
   refine⟨[v],rfl,by simpa[zap]using h1,h2,AV.wf_scalar h1,fun H G=> ?_⟩
   obtain⟨_,_,h3⟩:=zlg (H:=H) (G:=G) hy
   rw[AV.flat_scalar h1]
   exact⟨rfl,fun j a b=>by
    have:j=0:=by simp at a;omega
    subst this;simpa using h3⟩
 | .st fs,vs,x,r,h=>by
   simp only[avOf,wB,wU]at h
   obtain⟨⟨l,r'⟩,hl,rfl,rfl⟩:=h
   obtain⟨us,h1,h2,h3,h4⟩:=ztn fs vs l r' hl
   exact⟨us,h1,by simpa[zec]using h2,rfl,by simpa[AV.wf]using h3,fun H G=>by simpa[AV.flat]using h4 H G⟩
 | .ar n e,vs,x,r,h=>by
   simp only[avOf,wB,wU]at h
   obtain⟨⟨l,r'⟩,hl,rfl,rfl⟩:=h
   have:∀(n:Nat) (vs:List Value) (l:List AV) (r:List Value),z5j n (avOf e) vs=some (l,r) ->
     ∃us,vs=us++r/\l.length=n/\(∀x∈l,zap e x=true)/\AV.wfp l/\∀(H:Heap) (G:Gh),RepL H G us (AV.flats l):=by
    intro n
    induction n with
    | zero =>
      intro vs l r h
      simp only[z5j,wC,wU]at h
      obtain⟨rfl,rfl⟩:=h
      exact⟨[],rfl,rfl,by simp,trivial,fun H G=>⟨rfl,fun j a=>by simp at a⟩⟩
    | succ n ih =>
      intro vs l r h
      simp only[z5j,wD,wB,wU]at h
      obtain⟨⟨y,r1⟩,hy,⟨l2,r2⟩,hl2,rfl,rfl⟩:=h
      obtain⟨u1,e1,g1,g2,g3,g4⟩:=zq4 e vs y r1 hy
      obtain⟨u2,e2,k1,k2,k3,k4⟩:=ih r1 l2 r2 hl2
      refine⟨u1++u2,by rw[e1,e2,wJ],by simp[k1],?_,⟨g2,g3,k3⟩,fun H G=>zdx (g4 H G) (k4 H G)⟩
      intro x hx
      rcases List.mem_cons.1 hx with rfl|hx
      . exact g1
      . exact k2 x hx
   obtain⟨us,h1,h2,h3,h4,h5⟩:=this n vs l r' hl
   exact⟨us,h1,by simp[zbm,h2,wS];exact h3,rfl,by simpa[AV.wf]using h4,fun H G=>by simpa[AV.flat]using h5 H G⟩
theorem ztn :∀(fs:List Sh) (vs:List Value) (l:List AV) (r:List Value),z5i fs vs=some (l,r) ->
  ∃us,vs=us++r/\za5 fs l=true/\AV.wfp l/\∀(H:Heap) (G:Gh),RepL H G us (AV.flats l)
 | [],vs,l,r,h=>by
   simp only[z5i,wC,wU]at h
   obtain⟨rfl,rfl⟩:=h
   exact⟨[],rfl,rfl,trivial,fun H G=>⟨rfl,fun j a=>by simp at a⟩⟩
 | s::fs,vs,l,r,h=>by
   simp only[z5i,wD,wB,wU]at h
   obtain⟨⟨y,r1⟩,hy,⟨l2,r2⟩,hl2,rfl,rfl⟩:=h
   obtain⟨u1,e1,g1,g2,g3,g4⟩:=zq4 s vs y r1 hy
   obtain⟨u2,e2,k1,k2,k3⟩:=ztn fs r1 l2 r2 hl2
   exact⟨u1++u2,by rw[e1,e2,wJ],by simp[za5,g1,k1],⟨g2,g3,k2⟩,fun H G=>zdx (g4 H G) (k3 H G)⟩
end
end Go.Ev
