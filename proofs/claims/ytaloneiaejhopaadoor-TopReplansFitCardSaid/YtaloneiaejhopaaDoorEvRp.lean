/-
  How the evaluator's values and heap stand for the model's: definitions, and laws about shapes, places and growing memory. No condition.
-/
import Derived.Test.YtaloneiaejhopaaDoorEvD
import Derived.Laws.Sem
set_option linter.all false
open List renaming append_assoc->wB,length_cons->wC,mem_or_eq_of_mem_set->wD,all_eq_true->wE,getElem_append_right->wF,getElem_append_left->wG,mem_of_getElem?->wH,length_append->wJ,range->wK
open Nat renaming le_trans->wL,le_refl->wM,add_assoc->wN,ne_of_lt->wO,add_mul->wP
open Bool renaming and_eq_true->wQ
open Option renaming bind_eq_some_iff->wR,map_eq_some_iff->wS
open Array renaming getElem?_setIfInBounds_ne->wT,getElem?_eq_some_iff->wU,getElem?_setIfInBounds_self_of_lt->wV,ext_getElem?->wW,getElem?_modify->wX,getElem?_push->wY
namespace Go.Ev
open Go
inductive Rg where
 | nil
 | blk (b:Nat) (root:Sh)
 | env (X:Nat->Prop)
def Rg.le :Rg->Rg->Prop
 | .env _,r=>∃X',r= .env X'
 | q,r=>r=q
theorem Rg.le_refl :∀r:Rg,r.le r
 | .nil=>rfl
 | .blk _ _=>rfl
 | .env X=>⟨X,rfl⟩
theorem Rg.le_trans :∀{a b c:Rg},a.le b->b.le c->a.le c
 | .nil,_,_,h,h'=>by cases h;exact h'
 | .blk _ _,_,_,h,h'=>by cases h;exact h'
 | .env _,_,_,⟨_,h⟩,h'=>by subst h;exact h'
structure Gh where
 imm:Nat->Prop
 reg:Nat->Option Rg
 yl:Nat->Option RInfo
def Rg.at :Rg->Nat->Sh->Prop
 | .nil,_,_=>False
 | .blk b root,c,r=>b=c/\root=r
 | .env X,c,_=>X c
def Gh.At (G:Gh)(k b:Nat)(r:Sh):Prop:=∃q,G.reg k=some q/\q.at b r
theorem Gh.At.of {G:Gh}{k b:Nat}{r:Sh}(h:G.reg k=some (.blk b r)):G.At k b r:=⟨_,h,rfl,rfl⟩
theorem Gh.at_congr {G G':Gh}{k k' b:Nat}{r:Sh}(h:G.reg k=G'.reg k'):G.At k b r↔G'.At k' b r:=by unfold Gh.At;rw[h]
theorem Gh.At.nil {G:Gh}{k b:Nat}{r:Sh}(h:G.At k b r)(e:G.reg k=some .nil):False:=by obtain⟨q,hq,hat⟩:=h;rw[e]at hq;cases hq;exact hat
theorem Gh.At.none {G:Gh}{k b:Nat}{r:Sh}(h:G.At k b r)(e:G.reg k=none):False:=by obtain⟨q,hq,_⟩:=h;rw[e]at hq;cases hq
def isSc :Value->Bool
 | .pointer none| .nilFunc| .nilIface| .map none=>true
 | _=>false
mutual
def AV.wf :AV->Prop
 | .agg l=>AV.wfp l
 | .aggR l=>AV.wfs l
 | .tup l=>AV.wfs l
 | _=>True
def AV.wfp :List AV->Prop
 | []=>True
 | a::l=>a.plain=true/\AV.wf a/\AV.wfp l
def AV.wfs :List AV->Prop
 | []=>True
 | a::l=>AV.wf a/\AV.wfs l
end
theorem AV.wfs_iff :∀(l:List AV),AV.wfs l↔∀x∈l,x.wf
 | []=>by simp[AV.wfs]
 | a::l=>by simp[AV.wfs,AV.wfs_iff l]
theorem AV.wfp_iff :∀(l:List AV),AV.wfp l↔∀x∈l,x.plain=true/\x.wf
 | []=>by simp[AV.wfp]
 | a::l=>by simp[AV.wfp,AV.wfp_iff l,and_assoc]
abbrev Heap :=Array Obj
def fnV (f:Nat)(vs:Array Value):Value:=if f<MB then .func (.func f) #[] vs else .func (.func (f-MB)) vs #[]
inductive RepS (H:Heap)(G:Gh):Value->AV->Prop
 | bool (b:Bool):RepS H G (.bool b) (.bool b)
 | int (k:IntKind) (n:Int):RepS H G (.int k n) (.int k n)
 | str (l:List UInt8):RepS H G (.string ⟨⟨l⟩⟩) (.str l)
 | s (v:Value) (h:isSc v=true):RepS H G v (.s v)
 | ptr (k:Nat) (p:List Nat) (b:Nat) (root:Sh) (off:Nat) (hr:G.reg k=some (.blk b root)) (ho:root.off p=some off) :
    RepS H G (.pointer (some ⟨b,off,none⟩)) (.ptr k p)
 | arp (k:Nat) (p:List Nat) (off n b:Nat) (root:Sh) (m:Nat) (e:Sh) (o:Nat) (hr:G.reg k=some (.blk b root))
    (hs:root.sub p=some (.ar m e)) (ho:root.off p=some o) (hle:off+n<=m) :
    RepS H G (.pointer (some ⟨b,o+off*e.size,none⟩)) (.arp k p off n)
 | sl (k:Nat) (p:List Nat) (off len b:Nat) (root:Sh) (m:Nat) (e:Sh) (o:Nat) (hr:G.reg k=some (.blk b root))
    (hs:root.sub p=some (.ar m e)) (ho:root.off p=some o) (hle:off+len<=m) :
    RepS H G (.slice (some ⟨b,o+off*e.size,none⟩) len (m-off)) (.sl k p off len)
 | slZ (k:Nat) (p:List Nat) (off b x:Nat) (root:Sh) (m:Nat) (e:Sh) (hr:G.reg k=some (.blk b root))
    (hs:root.sub p=some (.ar m e)) (ho:off=m):RepS H G (.slice (some ⟨b,x,none⟩) 0 0) (.sl k p off 0)
 | slNil (k:Nat) (a:Option Addr) (hr:G.reg k=some .nil):RepS H G (.slice a 0 0) (.sl k [] 0 0)
 | lstE (full:Bool) (sh:Sh) (a:Option Addr) (cap:Nat) (h:full=true->cap=0):RepS H G (.slice a 0 cap) (.lst full sh [])
 | lst (full:Bool) (sh:Sh) (l:List AV) (b off len cap:Nat) (c:Array Value) (e:TypeId) (fz:Nat×Nat) (hi:G.imm b)
    (hb:H[b]? =some (.cells c e fz)) (hl:len=l.length) (hc:len<=cap) (hf:full=true->cap=len)
    (hsh:∀x∈l,zap sh x=true/\x.plain=true/\x.wf) (val:Nat->Value)
    (hv:∀j,j<(AV.flats l).length->c[off+j]? =some (val j)) (hr:∀j (h:j<(AV.flats l).length),RepS H G (val j) (AV.flats l)[j]) :
    RepS H G (.slice (some ⟨b,off,none⟩) len cap) (.lst full sh l)
 | cp (sh:Sh) (a:AV) (b off:Nat) (c:Array Value) (e:TypeId) (fz:Nat×Nat) (hi:G.imm b) (hb:H[b]? =some (.cells c e fz))
    (hsh:zap sh a=true/\a.plain=true/\a.wf) (val:Nat->Value)
    (hv:∀j,j<a.flat.length->c[off+j]? =some (val j)) (hr:∀j (h:j<a.flat.length),RepS H G (val j) a.flat[j]) :
    RepS H G (.pointer (some ⟨b,off,none⟩)) (.cp sh a)
 | fn (v:Value) (f:Nat) (caps:List AV) (vs:Array Value) (he:fnV f vs=v) (hn:vs.size=caps.length) (hsc:AV.scalars caps=true) (val:Nat->Value)
    (hv:∀i,i<caps.length->vs[i]? =some (val i)) (hr:∀i (h:i<caps.length),RepS H G (val i) caps[i]) :
    RepS H G v (.fn f caps)
 | yld (k b:Nat) (hr:G.reg k=some (.blk b .sc)):RepS H G (.func (.yield b) #[] #[]) (.yld k)
 | mp (k b:Nat) (hr:G.reg k=some (.blk b .sc)):RepS H G (.map (some b)) (.mp k)
structure Le (H:Heap)(G:Gh)(H':Heap)(G':Gh):Prop where
 imm:∀b,G.imm b->G'.imm b/\H'[b]? =H[b]?
 reg:∀k r,G.reg k=some r->∃r',G'.reg k=some r'/\r.le r'
 yl:∀i l,G.yl i=some l->G'.yl i=some l
theorem ze1 {G G':Gh}(h:∀k r,G.reg k=some r->G'.reg k=some r):∀k r,G.reg k=some r->∃r',G'.reg k=some r'/\r.le r':=fun k r hk=>⟨r,h k r hk,Rg.le_refl r⟩
theorem Le.blk {H H':Heap}{G G':Gh}(le:Le H G H' G'){k b:Nat}{s:Sh}(h:G.reg k=some (.blk b s)):G'.reg k=some (.blk b s):=by
 obtain⟨r,h1,h2⟩:=le.reg _ _ h
 cases h2;exact h1
theorem Le.nil {H H':Heap}{G G':Gh}(le:Le H G H' G'){k:Nat}(h:G.reg k=some .nil):G'.reg k=some .nil:=by
 obtain⟨r,h1,h2⟩:=le.reg _ _ h
 cases h2;exact h1
theorem Le.env {H H':Heap}{G G':Gh}(le:Le H G H' G'){k:Nat}{X:Nat->Prop}(h:G.reg k=some (.env X)):∃X',G'.reg k=some (.env X'):=by
 obtain⟨r,h1,X',rfl⟩:=le.reg _ _ h
 exact⟨X',h1⟩
theorem Le.refl (H:Heap)(G:Gh):Le H G H G:=⟨fun _ h=>⟨h,rfl⟩,ze1 fun _ _ h=>h,fun _ _ h=>h⟩
theorem Le.trans {H₀ H₁ H₂:Heap}{G₀ G₁ G₂:Gh}(h:Le H₀ G₀ H₁ G₁)(h':Le H₁ G₁ H₂ G₂):Le H₀ G₀ H₂ G₂ :=
 ⟨fun b hb=>⟨(h'.imm b (h.imm b hb).1).1,((h'.imm b (h.imm b hb).1).2).trans (h.imm b hb).2⟩,
  fun k r hk=>let ⟨r1,h1,h2⟩:=h.reg k r hk;let ⟨r2,h3,h4⟩:=h'.reg k r1 h1;⟨r2,h3,Rg.le_trans h2 h4⟩,fun i l hi=>h'.yl i l (h.yl i l hi)⟩
theorem RepS.mono {H H':Heap}{G G':Gh}(le:Le H G H' G'){v:Value}{a:AV}(h:RepS H G v a):RepS H' G' v a:=by
 induction h with
 | bool b=>exact .bool b
 | int k n=>exact .int k n
 | str l=>exact .str l
 | s v h=>exact .s v h
 | ptr k p b root off hr ho=>exact .ptr k p b root off (le.blk hr) ho
 | arp k p off n b root m e o hr hs ho hle=>exact .arp k p off n b root m e o (le.blk hr) hs ho hle
 | sl k p off len b root m e o hr hs ho hle=>exact .sl k p off len b root m e o (le.blk hr) hs ho hle
 | slZ k p off b x root m e hr hs ho=>exact .slZ k p off b x root m e (le.blk hr) hs ho
 | slNil k a hr=>exact .slNil k a (le.nil hr)
 | lstE full sh a cap h=>exact .lstE full sh a cap h
 | lst full sh l b off len cap c e fz hi hb hl hc hf hsh val hv hr ih =>
   exact .lst full sh l b off len cap c e fz (le.imm b hi).1 ((le.imm b hi).2.trans hb) hl hc hf hsh val hv ih
 | cp sh a b off c e fz hi hb hsh val hv hr ih =>
   exact .cp sh a b off c e fz (le.imm b hi).1 ((le.imm b hi).2.trans hb) hsh val hv ih
 | fn v f caps vs he hn hsc val hv hr ih=>exact .fn v f caps vs he hn hsc val hv ih
 | yld k b hr=>exact .yld k b (le.blk hr)
 | mp k b hr=>exact .mp k b (le.blk hr)
def RepC (H:Heap)(G:Gh)(c:Array Value)(off:Nat)(l:List AV):Prop :=
 ∀j (h:j<l.length),∃v,c[off+j]? =some v/\RepS H G v l[j]
theorem RepC.mono {H H':Heap}{G G':Gh}(le:Le H G H' G'){c:Array Value}{off:Nat}{l:List AV}(h:RepC H G c off l):RepC H' G' c off l :=
 fun j hj=>let ⟨v,hv,hr⟩:=h j hj;⟨v,hv,hr.mono le⟩
structure RepL (H:Heap)(G:Gh)(vs:List Value)(l:List AV):Prop where
 len:vs.length=l.length
 get:∀j (h:j<vs.length) (h':j<l.length),RepS H G vs[j] l[j]
theorem RepL.mono {H H':Heap}{G G':Gh}(le:Le H G H' G'){vs:List Value}{l:List AV}(h:RepL H G vs l):RepL H' G' vs l :=
 ⟨h.len,fun j a b=>(h.get j a b).mono le⟩
theorem zdx {H:Heap}{G:Gh}{vs us:List Value}{l m:List AV}(h:RepL H G vs l)(h':RepL H G us m):RepL H G (vs++us) (l++m):=by
 refine⟨by simp[h.len,h'.len],fun j a b=> ?_⟩
 have hl:=h.len
 by_cases hj:j<vs.length
 . rw[wG hj,wG (by omega)]
   exact h.get j hj (by omega)
 . rw[wF (by omega),wF (by omega)]
   simp only[wJ]at a b
   have:=h'.get (j-vs.length) (by omega) (by omega)
   simpa[hl]using this
def ze3 (a:AV)(vs:List Value):Value:=if a.isAgg then .agg vs.toArray else vs.headD undef
structure RepV (H:Heap)(G:Gh)(v:Value)(a:AV):Prop where
 known:a.known=true
 wf:a.wf
 rep:∃vs,RepL H G vs a.flat/\v=ze3 a vs
theorem RepV.mono {H H':Heap}{G G':Gh}(le:Le H G H' G'){v:Value}{a:AV}(h:RepV H G v a):RepV H' G' v a :=
 ⟨h.known,h.wf,let ⟨vs,hl,hv⟩:=h.rep;⟨vs,hl.mono le,hv⟩⟩
def RepT (H:Heap)(G:Gh)(v:Value)(a:AV):Prop :=
 match a with
 | .unk=>True
 | .tup l=>∃vs:Array Value,v= .tuple vs/\vs.size=l.length/\∀i (h:i<vs.size) (h':i<l.length),RepV H G vs[i] l[i]
 | a=>RepV H G v a
theorem RepT.mono {H H':Heap}{G G':Gh}(le:Le H G H' G'){v:Value}{a:AV}(h:RepT H G v a):RepT H' G' v a:=by
 cases a with
 | unk=>trivial
 | tup l=>obtain⟨vs,hv,hs,hr⟩:=h;exact⟨vs,hv,hs,fun i a b=>(hr i a b).mono le⟩
 | _=>exact RepV.mono le h
theorem RepT.of_known {H:Heap}{G:Gh}{v:Value}{a:AV}(hk:a.known=true):RepT H G v a↔RepV H G v a:=by
 cases a<;>simp_all[AV.known,RepT]
theorem AV.flat_scalar {a:AV}(h:a.scalar=true):a.flat=[a]:=by
 cases a<;>simp_all[AV.scalar,AV.flat]
theorem AV.isAgg_scalar {a:AV}(h:a.scalar=true):a.isAgg=false:=by
 cases a<;>simp_all[AV.scalar,AV.isAgg]
theorem AV.known_scalar {a:AV}(h:a.scalar=true):a.known=true:=by
 cases a<;>simp_all[AV.scalar,AV.known]
theorem AV.wf_scalar {a:AV}(h:a.scalar=true):a.wf:=by
 cases a<;>simp_all[AV.scalar,AV.wf]
theorem RepV.scalar {H:Heap}{G:Gh}{v:Value}{a:AV}(h:a.scalar=true):RepV H G v a↔RepS H G v a:=by
 constructor
 . rintro ⟨_,_,vs,hl,hv⟩
   rw[AV.flat_scalar h]at hl
   obtain⟨x,rfl⟩:∃x,vs=[x]:=by
    have:=hl.len
    match vs,this with
    | [x],_=>exact⟨x,rfl⟩
   have:=hl.get 0 (by simp) (by simp)
   simpa[hv,ze3,AV.isAgg_scalar h]using this
 . intro hs
   refine⟨AV.known_scalar h,AV.wf_scalar h,[v],⟨by simp[AV.flat_scalar h],fun j a b=> ?_⟩,by simp[ze3,AV.isAgg_scalar h]⟩
   have:j=0:=by simp at a;omega
   subst this
   simpa[AV.flat_scalar h]using hs
theorem AV.flats_append (l m:List AV):AV.flats (l++m)=AV.flats l++AV.flats m:=by
 induction l with
 | nil=>rfl
 | cons a l ih=>simp[AV.flats,ih,wB]
theorem AV.flat_kids {a:AV}(h:a.isAgg=true):a.flat=AV.flats a.kids:=by
 cases a<;>simp_all[AV.isAgg,AV.flat,AV.kids]
theorem za1 {n:Nat}:∀(l:List AV),(∀x∈l,x.flat.length=n)->(AV.flats l).length=l.length*n
 | [],_=>by simp[AV.flats]
 | a::l,h=>by
   simp only[AV.flats,wJ,wC]
   rw[h a (by simp),za1 l (fun x hx=>h x (by simp[hx]))]
   rw[wP];omega
mutual
theorem zaf :∀(s:Sh) (a:AV),zap s a=true->a.flat.length=s.size
 | .sc,a,h=>by simp only[zap]at h;simp[AV.flat_scalar h,Sh.size]
 | .st fs,a,h=>by
   simp only[zap,wQ]at h
   rw[AV.flat_kids h.1,Sh.size]
   exact zoe fs a.kids h.2
 | .ar n e,a,h=>by
   simp only[zap,wQ,beq_iff_eq,wE]at h
   rw[AV.flat_kids h.1.1,Sh.size,za1 a.kids (n:=e.size) (fun x hx=>zaf e x (h.2 x hx)),h.1.2]
theorem zoe :∀(fs:List Sh) (l:List AV),za5 fs l=true->(AV.flats l).length=Sh.sizes fs
 | [],[],_=>by simp[AV.flats,Sh.sizes]
 | s::fs,a::l,h=>by
   simp only[za5,wQ]at h
   simp[AV.flats,Sh.sizes,zaf s a h.1,zoe fs l h.2]
 | [],_::_,h=>by simp[za5]at h
 | _::_,[],h=>by simp[za5]at h
end
theorem zep :∀{fs:List Sh} {l:List AV},za5 fs l=true->fs.length=l.length
 | [],[],_=>rfl
 | s::fs,a::l,h=>by
   simp only[za5,wQ]at h
   simp[zep h.2]
 | [],_::_,h=>by simp[za5]at h
 | _::_,[],h=>by simp[za5]at h
theorem zde :∀{fs:List Sh} {l:List AV} {i:Nat} {s:Sh},za5 fs l=true->fs[i]? =some s->∃x,l[i]? =some x/\zap s x=true
 | s::fs,a::l,0,_,h,hi=>by
   simp only[za5,wQ]at h
   simp at hi;subst hi
   exact⟨a,by simp,h.1⟩
 | s::fs,a::l,i+1,_,h,hi=>by
   simp only[za5,wQ]at h
   simp at hi
   obtain⟨x,hx,hs⟩:=zde h.2 hi
   exact⟨x,by simpa using hx,hs⟩
 | [],_,_,_,_,hi=>by simp at hi
 | _::_,[],_,_,h,_=>by simp[za5]at h
theorem zci :∀{fs:List Sh} {l:List AV} {i:Nat} {x:AV},za5 fs l=true->l[i]? =some x ->
  ∃pre post,AV.flats l=pre++x.flat++post/\pre.length=Sh.sizes (fs.take i) /\
   ∀y,AV.flats (l.set i y)=pre++y.flat++post
 | s::fs,a::l,0,x,h,hi=>by
   simp at hi;subst hi
   exact⟨[],AV.flats l,by simp[AV.flats],by simp[Sh.sizes],fun y=>by simp[AV.flats]⟩
 | s::fs,a::l,i+1,x,h,hi=>by
   simp only[za5,wQ]at h
   simp at hi
   obtain⟨pre,post,h1,h2,h3⟩:=zci h.2 hi
   refine⟨a.flat++pre,post,by simp[AV.flats,h1,wB],by simp[h2,Sh.sizes,zaf s a h.1],fun y=>by simp[AV.flats,h3 y,wB]⟩
 | [],[],_,_,_,hi=>by simp at hi
 | [],_::_,_,_,h,_=>by simp[za5]at h
 | _::_,[],_,_,h,_=>by simp[za5]at h
theorem zkc :∀{fs:List Sh} {l:List AV} {i:Nat} {s:Sh} {y:AV},za5 fs l=true->fs[i]? =some s->zap s y=true->za5 fs (l.set i y)=true
 | s::fs,a::l,0,_,y,h,hi,hy=>by
   simp only[za5,wQ]at h
   simp at hi;subst hi
   simp[za5,h.2,hy]
 | s::fs,a::l,i+1,_,y,h,hi,hy=>by
   simp only[za5,wQ]at h
   simp at hi
   simp[za5,h.1,zkc h.2 hi hy]
 | [],_,_,_,_,_,hi,_=>by simp at hi
 | _::_,[],_,_,_,h,_,_=>by simp[za5]at h
theorem zby {n:Nat}:∀{l:List AV} {i:Nat} {x:AV},(∀x∈l,x.flat.length=n)->l[i]? =some x ->
  ∃pre post,AV.flats l=pre++x.flat++post/\pre.length=i*n/\∀y,AV.flats (l.set i y)=pre++y.flat++post
 | a::l,0,x,h,hi=>by
   simp at hi;subst hi
   exact⟨[],AV.flats l,by simp[AV.flats],by simp,fun y=>by simp[AV.flats]⟩
 | a::l,i+1,x,h,hi=>by
   simp at hi
   obtain⟨pre,post,h1,h2,h3⟩:=zby (fun y hy=>h y (by simp[hy])) hi
   refine⟨a.flat++pre,post,by simp[AV.flats,h1,wB],by simp[h2,h a (by simp),wP];omega,fun y=>by simp[AV.flats,h3 y,wB]⟩
 | [],_,_,_,hi=>by simp at hi
theorem zec {fs:List Sh}{l:List AV}:zap (.st fs) (.agg l)=za5 fs l:=by simp[zap,AV.isAgg,AV.kids]
theorem zbm {n:Nat}{e:Sh}{l:List AV}:zap (.ar n e) (.agg l)=(l.length==n&&l.all (zap e)):=by simp[zap,AV.isAgg,AV.kids]
theorem qau {l:List AV}{i:Nat}{y:AV}(h:AV.wfp l)(hp:y.plain=true)(hy:y.wf):AV.wfp (l.set i y):=by
 rw[AV.wfp_iff]at h ⊢
 intro x hx
 rcases wD hx with hx|rfl
 . exact h x hx
 . exact⟨hp,hy⟩
theorem zz5 {l:List AV}{i:Nat}{y:AV}(h:AV.wfs l)(hy:y.wf):AV.wfs (l.set i y):=by
 rw[AV.wfs_iff]at h ⊢
 intro x hx
 rcases wD hx with hx|rfl
 . exact h x hx
 . exact hy
theorem zxu {l:List AV}(h:AV.wfp l):AV.wfs l:=by
 rw[AV.wfp_iff]at h;rw[AV.wfs_iff];exact fun x hx=>(h x hx).2
theorem z5n {e:Sh}{l:List AV}{i:Nat}{y:AV}(h:∀x∈l,zap e x=true)(hy:zap e y=true):∀x∈l.set i y,zap e x=true:=by
 intro x hx
 rcases wD hx with hx|rfl
 . exact h x hx
 . exact hy
theorem zdt {a:AV}{i:Nat}{x:AV}(h:a.wf)(hi:a.kids[i]? =some x):x.wf:=by
 have hm:=wH hi
 cases a<;>simp_all[AV.kids,AV.wf,AV.wfp_iff,AV.wfs_iff]
theorem zfx {a:AV}{i:Nat}{x:AV}(hp:a.plain=true)(h:a.wf)(hi:a.kids[i]? =some x):x.plain=true:=by
 have hm:=wH hi
 cases a<;>simp_all[AV.kids,AV.wf,AV.wfp_iff,AV.plain]
theorem z1c {a:AV}{i:Nat}{p:List Nat}{x y y':AV}(ha:a.isAgg=true)(hx:a.kids[i]? =some x)(hs:x.setNav p y=some y') :
  ∃a',a.setNav (i::p) y=some a'/\a'.isAgg=true/\a'.kids=a.kids.set i y'/\(a.wf->y'.wf->a'.wf)/\(a.plain=true->y'.plain=true->a'.plain=true):=by
 cases a with
 | agg l =>
   simp only[AV.kids]at hx
   by_cases hp:y'.plain=true
   . exact⟨.agg (l.set i y'),by simp[AV.setNav,hx,hs,hp],rfl,rfl,fun h1 h2=>qau h1 hp h2,fun _ _=>rfl⟩
   . refine⟨.aggR (l.set i y'),by simp[AV.setNav,hx,hs,hp],rfl,rfl,fun h1 h2=> ?_,fun _ h=>absurd h hp⟩
     simp only[AV.wf]at h1 ⊢
     exact zz5 (zxu h1) h2
 | aggR l =>
   simp only[AV.kids]at hx
   exact⟨.aggR (l.set i y'),by simp[AV.setNav,hx,hs],rfl,rfl,fun h1 h2=>zz5 h1 h2,fun h=>by simp[AV.plain]at h⟩
 | _=>simp[AV.isAgg]at ha
theorem zd8 :∀(p:List Nat) (root:Sh) (a:AV) (s:Sh),zap root a=true->root.sub p=some s ->
  ∃x o pre post,a.nav p=some x/\root.off p=some o/\zap s x=true/\a.flat=pre++x.flat++post/\pre.length=o/\(a.wf->x.wf) /\
   (a.plain=true->a.wf->x.plain=true) /\
   ∀y,zap s y=true->∃a',a.setNav p y=some a'/\zap root a'=true/\a'.flat=pre++y.flat++post/\(a.wf->y.wf->a'.wf) /\
    (a.plain=true->a.wf->y.plain=true->a'.plain=true)
 | [],root,a,s,h,hs=>by
   have:root=s:=by cases root<;>simpa[Sh.sub]using hs
   subst this
   refine⟨a,0,[],[],by cases a<;>rfl,by cases root<;>rfl,h,by simp,rfl,id,fun h _=>h,fun y hy=>⟨y,by cases a<;>rfl,hy,by simp,fun _ h=>h,fun _ _ h=>h⟩⟩
 | i::p,.sc,a,s,h,hs=>by simp[Sh.sub]at hs
 | i::p,.st fs,a,s,h,hs=>by
   simp only[zap,wQ]at h
   simp only[Sh.sub,wR]at hs
   obtain⟨f,hf,hs⟩:=hs
   obtain⟨z,hz,hfz⟩:=zde h.2 hf
   obtain⟨x,o,pre,post,hn,ho,hx,hfl,hl,hwf,hpl,hset⟩:=zd8 p f z s hfz hs
   obtain⟨pre',post',h1,h2,h3⟩:=zci h.2 hz
   refine⟨x,Sh.sizes (fs.take i)+o,pre'++pre,post++post',?_,?_,hx,?_,by simp[h2,hl],fun hw=>hwf (zdt hw hz),fun hp hw=>hpl (zfx hp hw hz) (zdt hw hz),fun y hy=> ?_⟩
   . cases a<;>simp_all[AV.isAgg,AV.kids,AV.nav]
   . simp[Sh.off,hf,ho]
   . rw[AV.flat_kids h.1,h1,hfl];simp[wB]
   . obtain⟨z',hz',hsz,hfz',hwz,hpz⟩:=hset y hy
     obtain⟨a',ha',hag,hk,hw,hpa⟩:=z1c (y:=y) (p:=p) h.1 hz hz'
     refine⟨a',ha',?_,?_,fun hwa hwy=>hw hwa (hwz (zdt hwa hz) hwy),fun hp hwa hy=>hpa hp (hpz (zfx hp hwa hz) (zdt hwa hz) hy)⟩
     . simp[zap,hag,hk,zkc h.2 hf hsz]
     . rw[AV.flat_kids hag,hk,h3,hfz'];simp[wB]
 | i::p,.ar n e,a,s,h,hs=>by
   simp only[zap,wQ,beq_iff_eq,wE]at h
   simp only[Sh.sub]at hs
   split at hs
   . rename_i hi
     have hik:i<a.kids.length:=by omega
     have hz:a.kids[i]? =some a.kids[i]:=List.getElem?_eq_getElem hik
     obtain⟨x,o,pre,post,hn,ho,hx,hfl,hl,hwf,hpl,hset⟩:=zd8 p e a.kids[i] s (h.2 _ (List.getElem_mem hik)) hs
     obtain⟨pre',post',h1,h2,h3⟩:=zby (l:=a.kids) (i:=i) (x:=a.kids[i]) (fun y hy=>zaf e y (h.2 y hy)) hz
     refine⟨x,i*e.size+o,pre'++pre,post++post',?_,?_,hx,?_,by simp[h2,hl],fun hw=>hwf (zdt hw hz),fun hp hw=>hpl (zfx hp hw hz) (zdt hw hz),fun y hy=> ?_⟩
     . cases a<;>simp_all[AV.isAgg,AV.kids,AV.nav]
     . simp[Sh.off,hi,ho]
     . rw[AV.flat_kids h.1.1,h1,hfl];simp[wB]
     . obtain⟨z',hz',hsz,hfz',hwz,hpz⟩:=hset y hy
       obtain⟨a',ha',hag,hk,hw,hpa⟩:=z1c (y:=y) (p:=p) h.1.1 hz hz'
       refine⟨a',ha',?_,?_,fun hwa hwy=>hw hwa (hwz (zdt hwa hz) hwy),fun hp hwa hy=>hpa hp (hpz (zfx hp hwa hz) (zdt hwa hz) hy)⟩
       . simp only[zap,hag,hk,Bool.true_and,wQ,beq_iff_eq,List.length_set,wE]
         exact⟨h.1.2,z5n h.2 hsz⟩
       . rw[AV.flat_kids hag,hk,h3,hfz'];simp[wB]
   . cases hs
theorem zj4 :∀{root:Sh} {p:List Nat} {s:Sh},root.sub p=some s->∃o,root.off p=some o
 | root,[],s,_=>⟨0,by cases root<;>rfl⟩
 | .sc,i::p,s,h=>by simp[Sh.sub]at h
 | .st fs,i::p,s,h=>by
   simp only[Sh.sub,wR]at h
   obtain⟨f,hf,h⟩:=h
   obtain⟨o,ho⟩:=zj4 h
   exact⟨Sh.sizes (fs.take i)+o,by simp[Sh.off,hf,ho]⟩
 | .ar n e,i::p,s,h=>by
   simp only[Sh.sub]at h
   split at h
   . rename_i hi
     obtain⟨o,ho⟩:=zj4 h
     exact⟨i*e.size+o,by simp[Sh.off,hi,ho]⟩
   . cases h
theorem zht :∀{root:Sh} {p q:List Nat} {s:Sh} {o o':Nat},root.sub p=some s->root.off p=some o->s.off q=some o'->root.off (p++q)=some (o+o')
 | root,[],q,s,o,o',h,ho,hq=>by
   have:root=s:=by cases root<;>simpa[Sh.sub]using h
   subst this
   have:o=0:=by cases root<;>simpa[Sh.off]using ho.symm
   subst this;simpa using hq
 | .sc,i::p,q,s,o,o',h,ho,hq=>by simp[Sh.sub]at h
 | .st fs,i::p,q,s,o,o',h,ho,hq=>by
   simp only[Sh.sub,wR]at h
   obtain⟨f,hf,h⟩:=h
   simp only[Sh.off,hf,Option.bind_some,wS]at ho
   obtain⟨o1,ho1,rfl⟩:=ho
   simp[Sh.off,hf,zht h ho1 hq,wN]
 | .ar n e,i::p,q,s,o,o',h,ho,hq=>by
   simp only[Sh.sub]at h
   split at h
   . rename_i hi
     simp only[Sh.off,hi,if_true,wS]at ho
     obtain⟨o1,ho1,rfl⟩:=ho
     simp[Sh.off,hi,zht h ho1 hq,wN]
   . cases h
end Go.Ev
namespace Go.Ev
open Go
def free (c:Array Value)(fz:Nat×Nat):Prop:=fz.1=fz.2\/c.size<=fz.1
def freeG (sh:Sh)(c:Array Value)(fz:Nat×Nat):Prop:=fz.1=fz.2\/(sh= .sc/\c.size<=fz.1)
theorem freeG.free {sh:Sh}{c:Array Value}{fz:Nat×Nat}(h:freeG sh c fz):free c fz:=h.imp id And.right
theorem freeG.put {sh:Sh}{c c':Array Value}{fz:Nat×Nat}(h:freeG sh c fz)(hs:c'.size=c.size):freeG sh c' fz:=h.imp id fun h=>⟨h.1,by rw[hs];exact h.2⟩
structure RcOk (info:RInfo)(rc:Loop)(s:RS):Prop where
 params:rc.params=info.params
 assign:rc.assign=info.assign
 body:rc.body=info.body
 nt:info.nt<=rc.tmps.size
 st:match s with
  | .ready=>rc.state= .ready/\rc.pending=none
  | .busy=>rc.state= .busy
  | .done e=>rc.state= .done/\rc.pending=(match e with| .norm=>none| .ret=>some .ret| .exit id=>some (.exit id))
structure RepW (H:Heap)(G:Gh)(info:RInfo)(rc:Loop)(vals:List AV):Prop where
 len:vals.length=info.slots.length
 get:∀j (h:j<vals.length),RepT H G (rc.tmps.getD (info.slots.getD j 0) undef) vals[j]
theorem RepW.mono {H H':Heap}{G G':Gh}(le:Le H G H' G'){info:RInfo}{rc:Loop}{vals:List AV}(h:RepW H G info rc vals):RepW H' G' info rc vals :=
 ⟨h.len,fun j hj=>(h.get j hj).mono le⟩
def valI :AV->Value
 | .int k n=>.int k n
 | _=>undef
def zbd :AV->Value
 | .bool b=>.bool b
 | .int k n=>.int k n
 | .str l=>.string ⟨⟨l⟩⟩
 | .agg l=>.agg (l.map valI).toArray
 | _=>undef
def entV (e:AV×AV×Nat):MapEntry:=⟨zbd e.1,zbd e.2.1,e.2.2⟩
def ObOk (H:Heap)(G:Gh)(k:Nat):OB->Prop
 | .fix sh a=>∃b c e fz,G.reg k=some (.blk b sh)/\H[b]? =some (.cells c e fz)/\c.size=sh.size/\free c fz/\zap sh a=true/\a.wf/\RepC H G c 0 a.flat
 | .grow sh els=>(els=[]/\G.reg k=some .nil)\/∃b cap c e fz,G.reg k=some (.blk b (.ar cap sh))/\els.length<=cap/\H[b]? =some (.cells c e fz) /\
    c.size=cap*sh.size/\freeG sh c fz/\(∀x∈els,zap sh x=true/\x.plain=true/\x.wf)/\RepC H G c 0 (AV.flats els)
 | .dead=>∃r,G.reg k=some r
 | .lp rid vals s=>∃b rc info,G.reg k=some (.blk b .sc)/\H[b]? =some (.loop rc)/\G.yl rid=some info/\RcOk info rc s/\RepW H G info rc vals
 | .mp es c=>∃b,G.reg k=some (.blk b .sc)/\H[b]? =some (.map (es.map entV).toArray c)/\∀e∈es,e.1.kkv=true/\e.2.1.kv=true
def za0 (hp:Hp)(k:Nat):Prop:=∃o,hp.get k=some o/\o≠.dead
def Live (G:Gh)(hp:Hp)(b:Nat):Prop:=∃k r,za0 hp k/\G.At k b r
structure Inv (H:Heap)(G:Gh)(hp:Hp):Prop where
 obs:∀k o,hp.get k=some o->ObOk H G k o
 out:∀k,hp.get k=none->G.reg k=none
 dist:∀k k' b r r',G.At k b r->G.At k' b r'->za0 hp k->za0 hp k'->k=k'
 imm:∀b,G.imm b->b<H.size/\¬Live G hp b
 lt:∀b,Live G hp b->b<H.size
structure Step (H:Heap)(G:Gh)(hp:Hp)(H':Heap)(G':Gh)(hp':Hp):Prop where
 inv:Inv H' G' hp'
 le:Le H G H' G'
 size:H.size<=H'.size
 same:∀b,b<H.size->¬Live G hp b->H'[b]? =H[b]?
 live:∀b,Live G' hp' b->Live G hp b\/H.size<=b
 immNew:∀b,G'.imm b->G.imm b\/H.size<=b\/Live G hp b
theorem Inv.get_reg {H:Heap}{G:Gh}{hp:Hp}(inv:Inv H G hp){k:Nat}{o:OB}(h:hp.get k=some o):∃r,G.reg k=some r:=by
 have:=inv.obs k o h
 cases o with
 | fix sh a=>obtain⟨b,_,_,_,h,_⟩:=this;exact⟨_,h⟩
 | grow sh els =>
   rcases this with ⟨_,h⟩|⟨_,_,_,_,_,h,_⟩
   . exact⟨_,h⟩
   . exact⟨_,h⟩
 | dead=>obtain⟨r,h⟩:=this;exact⟨_,h⟩
 | lp _ _ _=>obtain⟨_,_,_,h,_⟩:=this;exact⟨_,h⟩
 | mp _ _=>obtain⟨_,h,_⟩:=this;exact⟨_,h⟩
theorem Step.refl {H:Heap}{G:Gh}{hp:Hp}(h:Inv H G hp):Step H G hp H G hp :=
 ⟨h,.refl H G,wM _,fun _ _ _=>rfl,fun _ h=>.inl h,fun _ h=>.inl h⟩
theorem Step.trans {H₀ H₁ H₂:Heap}{G₀ G₁ G₂:Gh}{p₀ p₁ p₂:Hp}(h:Step H₀ G₀ p₀ H₁ G₁ p₁)(h':Step H₁ G₁ p₁ H₂ G₂ p₂):Step H₀ G₀ p₀ H₂ G₂ p₂ where
 inv:=h'.inv
 le:=h.le.trans h'.le
 size:=wL h.size h'.size
 same b hb hl:=by
  have:¬Live G₁ p₁ b:=fun h1=>by
   rcases h.live b h1 with h2|h2
   . exact hl h2
   . omega
  rw[h'.same b (Nat.lt_of_lt_of_le hb h.size) this,h.same b hb hl]
 live b hb:=by
  rcases h'.live b hb with h1|h1
  . exact h.live b h1
  . exact .inr (wL h.size h1)
 immNew b hb:=by
  rcases h'.immNew b hb with h1|h1|h1
  . exact h.immNew b h1
  . exact .inr (.inl (wL h.size h1))
  . rcases h.live b h1 with h2|h2
    . exact .inr (.inr h2)
    . exact .inr (.inl h2)
theorem Hp.get_cons (k:Nat)(o:OB)(hp:Hp)(j:Nat):Hp.get ((k,o)::hp) j=if k=j then some o else Hp.get hp j:=rfl
theorem zba {k:Nat}{o:OB}{hp:Hp}{j:Nat}:za0 ((k,o)::hp) j↔(k=j/\o≠.dead)\/(k≠j/\za0 hp j):=by
 unfold za0
 rw[Hp.get_cons]
 by_cases h:k=j
 . simp[h]
 . simp[h]
def Gh.with (G:Gh)(k:Nat)(r:Rg):Gh:={G with reg:=fun j=>if j=k then some r else G.reg j}
theorem Gh.with_at {G:Gh}{k:Nat}{q:Rg}{j b:Nat}{r:Sh}:(G.with k q).At j b r↔if j=k then q.at b r else G.At j b r:=by
 unfold Gh.At Gh.with
 by_cases h:j=k
 . simp[h]
 . simp[h]
theorem Gh.with_le {H H':Heap}{G:Gh}{k:Nat}{r:Rg}(hk:G.reg k=none)(hH:∀b,G.imm b->H'[b]? =H[b]?):Le H G H' (G.with k r) :=
 ⟨fun b hb=>⟨hb,hH b hb⟩,ze1 fun j s hs=>by
   simp only[Gh.with]
   by_cases h:j=k
   . subst h;rw[hk]at hs;cases hs
   . simp[h,hs],fun _ _ h=>h⟩
theorem ObOk.mono {H H':Heap}{G G':Gh}{hp:Hp}(le:Le H G H' G'){k:Nat}{o:OB}(hk:za0 hp k->∀b r,G.At k b r->H'[b]? =H[b]?)
  (hreg:∀r,G.reg k=some r->G'.reg k=some r) (ho:hp.get k=some o) (h:ObOk H G k o):ObOk H' G' k o:=by
 cases o with
 | fix sh a =>
   obtain⟨b,c,e,fz,hr,hb,hs,hf,hsh,hw,hc⟩:=h
   exact⟨b,c,e,fz,le.blk hr,(hk ⟨_,ho,by simp⟩ b sh (.of hr)).trans hb,hs,hf,hsh,hw,hc.mono le⟩
 | grow sh els =>
   rcases h with ⟨h1,h2⟩|⟨b,cap,c,e,fz,hr,hl,hb,hs,hf,hsh,hc⟩
   . exact .inl ⟨h1,le.nil h2⟩
   . exact .inr ⟨b,cap,c,e,fz,le.blk hr,hl,(hk ⟨_,ho,by simp⟩ b _ (.of hr)).trans hb,hs,hf,hsh,hc.mono le⟩
 | dead=>exact let ⟨r,hr⟩:=h;let ⟨r',h',_⟩:=le.reg _ _ hr;⟨r',h'⟩
 | lp rid vals s =>
   obtain⟨b,rc,info,hr,hb,hy,hrc,hv⟩:=h
   exact⟨b,rc,info,le.blk hr,(hk ⟨_,ho,by simp⟩ b .sc (.of hr)).trans hb,le.yl _ _ hy,hrc,hv.mono le⟩
 | mp es c =>
   obtain⟨b,hr,hb,he⟩:=h
   exact⟨b,le.blk hr,(hk ⟨_,ho,by simp⟩ b .sc (.of hr)).trans hb,he⟩
theorem zit {H:Heap}{G:Gh}{hp:Hp}(inv:Inv H G hp){k:Nat}(hk:hp.get k=none)(x:Obj)(root:Sh)(ob:OB)
  (hob:Le H G (H.push x) (G.with k (.blk H.size root))->ObOk (H.push x) (G.with k (.blk H.size root)) k ob) :
  Step H G hp (H.push x) (G.with k (.blk H.size root)) ((k,ob)::hp):=by
 have hreg:=inv.out k hk
 have hpush:∀b,b<H.size->(H.push x)[b]? =H[b]? :=fun b hb=>by
  rw[wY];simp[wO hb]
 have hle:Le H G (H.push x) (G.with k (.blk H.size root)):=Gh.with_le hreg fun b hb=>hpush b (inv.imm b hb).1
 have hlive:∀b,Live (G.with k (.blk H.size root)) ((k,ob)::hp) b->Live G hp b\/b=H.size:=by
  rintro b ⟨j,r,hl,hr⟩
  rw[Gh.with_at]at hr
  by_cases h:j=k
  . subst h;simp only[if_true,Rg.at]at hr;exact .inr hr.1.symm
  . simp only[h,if_false]at hr
    rcases zba.1 hl with ⟨h1,_⟩|⟨_,h2⟩
    . exact absurd h1.symm h
    . exact .inl ⟨j,r,h2,hr⟩
 refine⟨⟨?_,?_,?_,?_,?_⟩,hle,by simp,fun b hb _=>hpush b hb,fun b hb=> ?_,fun b hb=>.inl hb⟩
 . intro j o hj
   rw[Hp.get_cons]at hj
   by_cases h:k=j
   . subst h;simp at hj;subst hj;exact hob hle
   . simp only[h,if_false]at hj
     exact ObOk.mono (hp:=hp) hle (fun hl b r hr=>hpush b (inv.lt b ⟨j,r,hl,hr⟩)) (fun r hr=>by simp only[Gh.with,show ¬j=k from fun e=>h e.symm,if_false];exact hr) hj (inv.obs j o hj)
 . intro j hj
   rw[Hp.get_cons]at hj
   by_cases h:k=j
   . subst h;simp at hj
   . simp only[h,if_false]at hj
     simp only[Gh.with,show ¬j=k from fun e=>h e.symm,if_false]
     exact inv.out j hj
 . intro j j' b r r' hj hj' hl hl'
   rw[Gh.with_at]at hj hj'
   by_cases h:j=k
   . by_cases h':j'=k
     . rw[h,h']
     . exfalso
       simp only[h,if_true,Rg.at]at hj
       simp only[h',if_false]at hj'
       rcases zba.1 hl' with ⟨h1,_⟩|⟨_,h2⟩
       . exact h' h1.symm
       . have:=inv.lt b ⟨j',r',h2,hj'⟩;omega
   . by_cases h':j'=k
     . exfalso
       simp only[h',if_true,Rg.at]at hj'
       simp only[h,if_false]at hj
       rcases zba.1 hl with ⟨h1,_⟩|⟨_,h2⟩
       . exact h h1.symm
       . have:=inv.lt b ⟨j,r,h2,hj⟩;omega
     . simp only[h,if_false]at hj
       simp only[h',if_false]at hj'
       rcases zba.1 hl with ⟨h1,_⟩|⟨_,h2⟩
       . exact absurd h1.symm h
       . rcases zba.1 hl' with ⟨h1,_⟩|⟨_,h2'⟩
         . exact absurd h1.symm h'
         . exact inv.dist j j' b r r' hj hj' h2 h2'
 . intro b hb
   have:=inv.imm b hb
   refine⟨by simp;omega,fun hl=> ?_⟩
   rcases hlive b hl with h|h
   . exact this.2 h
   . omega
 . intro b hb
   rcases hlive b hb with h|h
   . have:=inv.lt b h;simp;omega
   . simp;omega
 . rcases hlive b hb with h|h
   . exact .inl h
   . exact .inr (Nat.le_of_eq h.symm)
theorem z5x {H:Heap}{G:Gh}{hp:Hp}(inv:Inv H G hp)(x:Obj):Step H G hp (H.push x) {imm:=fun b=>G.imm b\/b=H.size,reg:=G.reg,yl:=G.yl} hp:=by
 have hpush:∀b,b<H.size->(H.push x)[b]? =H[b]? :=fun b hb=>by
  rw[wY];simp[wO hb]
 have hle:Le H G (H.push x) {imm:=fun b=>G.imm b\/b=H.size,reg:=G.reg,yl:=G.yl}:=⟨fun b hb=>⟨.inl hb,hpush b (inv.imm b hb).1⟩,ze1 fun _ _ h=>h,fun _ _ h=>h⟩
 refine⟨⟨fun j o hj=> ?_,inv.out,inv.dist,fun b hb=> ?_,fun b hb=> ?_⟩,hle,by simp,fun b hb _=>hpush b hb,fun b hb=>.inl hb,fun b hb=> ?_⟩
 . exact ObOk.mono (hp:=hp) hle (fun hl b r hr=>hpush b (inv.lt b ⟨j,r,hl,hr⟩)) (fun r hr=>hr) hj (inv.obs j o hj)
 . rcases hb with hb|rfl
   . have:=inv.imm b hb;exact⟨by simp;omega,this.2⟩
   . exact⟨by simp,fun hl=>by have:=inv.lt _ hl;omega⟩
 . have:=inv.lt b hb;simp;omega
 . rcases hb with hb|rfl
   . exact .inl hb
   . exact .inr (.inl (wM _))
theorem zpe {H:Heap}{G:Gh}{hp:Hp}(inv:Inv H G hp){k:Nat}(hk:hp.get k=none)(sh:Sh) :
  Step H G hp H (G.with k .nil) ((k,.grow sh [])::hp):=by
 have hreg:=inv.out k hk
 have hle:Le H G H (G.with k .nil):=Gh.with_le hreg fun b _=>rfl
 have hlive:∀b,Live (G.with k .nil) ((k,.grow sh [])::hp) b->Live G hp b:=by
  rintro b ⟨j,r,hl,hr⟩
  rw[Gh.with_at]at hr
  by_cases h:j=k
  . subst h;simp[Rg.at]at hr
  . simp only[h,if_false]at hr
    rcases zba.1 hl with ⟨h1,_⟩|⟨_,h2⟩
    . exact absurd h1.symm h
    . exact⟨j,r,h2,hr⟩
 refine⟨⟨?_,?_,?_,?_,?_⟩,hle,wM _,fun b hb _=>rfl,fun b hb=>.inl (hlive b hb),fun b hb=>.inl hb⟩
 . intro j o hj
   rw[Hp.get_cons]at hj
   by_cases h:k=j
   . subst h;simp at hj;subst hj;exact .inl ⟨rfl,by simp[Gh.with]⟩
   . simp only[h,if_false]at hj
     exact ObOk.mono (hp:=hp) hle (fun hl b r hr=>rfl) (fun r hr=>by simp only[Gh.with,show ¬j=k from fun e=>h e.symm,if_false];exact hr) hj (inv.obs j o hj)
 . intro j hj
   rw[Hp.get_cons]at hj
   by_cases h:k=j
   . subst h;simp at hj
   . simp only[h,if_false]at hj
     simp only[Gh.with,show ¬j=k from fun e=>h e.symm,if_false]
     exact inv.out j hj
 . intro j j' b r r' hj hj' hl hl'
   rw[Gh.with_at]at hj hj'
   by_cases h:j=k
   . simp[h,Rg.at]at hj
   . by_cases h':j'=k
     . simp[h',Rg.at]at hj'
     . simp only[h,if_false]at hj
       simp only[h',if_false]at hj'
       rcases zba.1 hl with ⟨h1,_⟩|⟨_,h2⟩
       . exact absurd h1.symm h
       . rcases zba.1 hl' with ⟨h1,_⟩|⟨_,h2'⟩
         . exact absurd h1.symm h'
         . exact inv.dist j j' b r r' hj hj' h2 h2'
 . intro b hb
   exact⟨(inv.imm b hb).1,fun hl=>(inv.imm b hb).2 (hlive b hl)⟩
 . exact fun b hb=>inv.lt b (hlive b hb)
theorem zck {H:Heap}{G:Gh}{hp:Hp}(inv:Inv H G hp){k:Nat}{o:OB}(hk:hp.get k=some o)(H':Heap)(ob:OB)
  (hsz:H'.size=H.size) (hoth:∀b,¬(∃r,G.At k b r/\za0 hp k)->H'[b]? =H[b]?) (hlive:ob≠.dead->o≠.dead)
  (hob:Le H G H' G->ObOk H' G k ob):Step H G hp H' G ((k,ob)::hp):=by
 have hle:Le H G H' G:=⟨fun b hb=>⟨hb,hoth b fun⟨r,hr,hl⟩=>(inv.imm b hb).2 ⟨k,r,hl,hr⟩⟩,ze1 fun _ _ h=>h,fun _ _ h=>h⟩
 have hlo:∀j,za0 ((k,ob)::hp) j->za0 hp j:=fun j hj=>by
  rcases zba.1 hj with ⟨h1,h2⟩|⟨_,h2⟩
  . subst h1;exact⟨o,hk,hlive h2⟩
  . exact h2
 have hL:∀b,Live G ((k,ob)::hp) b->Live G hp b:=fun b ⟨j,r,hl,hr⟩=>⟨j,r,hlo j hl,hr⟩
 refine⟨⟨?_,?_,?_,?_,?_⟩,hle,by omega,fun b hb hl=>hoth b fun⟨r,hr,hl'⟩=>hl ⟨k,r,hl',hr⟩,fun b hb=>.inl (hL b hb),fun b hb=>.inl hb⟩
 . intro j o' hj
   rw[Hp.get_cons]at hj
   by_cases h:k=j
   . subst h;simp at hj;subst hj;exact hob hle
   . simp only[h,if_false]at hj
     refine ObOk.mono (hp:=hp) hle (fun hl b r hr=>hoth b fun⟨r',hr',hl'⟩=> ?_) (fun _ h=>h) hj (inv.obs j o' hj)
     exact h (inv.dist k j b r' r hr' hr hl' hl)
 . intro j hj
   rw[Hp.get_cons]at hj
   by_cases h:k=j
   . subst h;simp at hj
   . simp only[h,if_false]at hj
     exact inv.out j hj
 . exact fun j j' b r r' hj hj' hl hl'=>inv.dist j j' b r r' hj hj' (hlo j hl) (hlo j' hl')
 . exact fun b hb=>⟨by have:=(inv.imm b hb).1;omega,fun hl=>(inv.imm b hb).2 (hL b hl)⟩
 . exact fun b hb=>by have:=inv.lt b (hL b hb);omega
theorem zgv {H:Heap}{G:Gh}{hp:Hp}(inv:Inv H G hp){k:Nat}{o:OB}(hk:hp.get k=some o):Step H G hp H G ((k,.dead)::hp) :=
 zck inv hk H .dead rfl (fun _ _=>rfl) (fun h=>absurd rfl h) fun _=>by
  have:=inv.obs k o hk
  cases o with
  | fix sh a=>obtain⟨b,c,e,fz,hr,_⟩:=this;exact⟨_,hr⟩
  | grow sh els =>
    rcases this with ⟨_,h⟩|⟨b,cap,c,e,fz,hr,_⟩
    . exact⟨_,h⟩
    . exact⟨_,hr⟩
  | dead=>exact this
  | lp _ _ _=>obtain⟨b,rc,info,hr,_⟩:=this;exact⟨_,hr⟩
  | mp _ _=>obtain⟨b,hr,_⟩:=this;exact⟨_,hr⟩
section runs
variable {P :Program} {w:World}
theorem z46 {b o:Nat}{c:Array Value}{e:TypeId}{fz:Nat×Nat}(h:w.heap[b]? =some (.cells c e fz)):w.cell? ⟨b,o,none⟩=c[o]? :=by
 simp[World.cell?,h]
theorem zcp (b o i:Nat):(⟨b,o,none⟩:Addr).add i=⟨b,o+i,none⟩:=by
 unfold Addr.add;split<;>simp_all
theorem zlv {b o:Nat}{c:Array Value}{e:TypeId}{fz:Nat×Nat}{v:Value}(h:w.heap[b]? =some (.cells c e fz))(hv:c[o]? =some v) :
  (load ⟨b,o,none⟩).run P w= .ok v w:=by
 simp[z46 h,hv]
theorem zel {b o:Nat}{c:Array Value}{e:TypeId}{fz:Nat×Nat}(h:w.heap[b]? =some (.cells c e fz))(val:Nat->Value) :
  ∀(n i:Nat) (acc:Array Value),(∀j,j<n->c[o+i+j]? =some (val (i+j))) ->
   (loadCellsFrom ⟨b,o,none⟩ i n acc).run P w= .ok (acc++((wK n).map fun j=>val (i+j)).toArray) w
 | 0,i,acc,_=>by simp[loadCellsFrom]
 | n+1,i,acc,hv=>by
   simp only[loadCellsFrom,Sem.run_bind,zcp]
   rw[zlv h (by simpa using hv 0 (by omega))]
   simp only[Result.andThen_ok]
   rw[zel h val n (i+1) _ (fun j hj=>by
    have:=hv (j+1) (by omega)
    rw[show o+(i+1)+j=o+i+(j+1) by omega,show i+1+j=i+(j+1) by omega];exact this)]
   congr 1
   simp only[List.range_succ_eq_map,List.map_cons,List.map_map]
   apply Array.ext'
   simp only[Array.toList_append,Array.toList_push,wB,List.singleton_append,Nat.add_zero]
   congr 2
   apply List.map_congr_left
   intro j _
   simp[Function.comp,show i+1+j=i+(j+1) by omega]
theorem zgs {b o:Nat}{c:Array Value}{e:TypeId}{fz:Nat×Nat}(h:w.heap[b]? =some (.cells c e fz))(val:Nat->Value)(n:Nat)
  (hv:∀j,j<n->c[o+j]? =some (val j)):(loadCells ⟨b,o,none⟩ n).run P w= .ok ((wK n).map val).toArray w:=by
 have:=zel (P:=P) (o:=o) h val n 0 #[] (by simpa using hv)
 simpa[loadCells]using this
def zav (c:Array Value)(o:Nat):List Value->Array Value
 | []=>c
 | v::r=>zav (c.setIfInBounds o v) (o+1) r
theorem zau (o:Nat)(vs:List Value):∀(c:Array Value),(zav c o vs).size=c.size:=by
 induction vs generalizing o with
 | nil=>intro c;rfl
 | cons v r ih=>intro c;simp[zav,ih]
theorem zg4 (vs:List Value):∀(o:Nat) (c:Array Value) (j:Nat),o+vs.length<=c.size ->
  (zav c o vs)[j]? =if o<=j/\j<o+vs.length then vs[j-o]? else c[j]? :=by
 induction vs with
 | nil=>intro o c j _;simp only[zav,List.length_nil];rw[if_neg (by omega)]
 | cons v r ih =>
   intro o c j hl
   simp only[wC]at hl
   rw[zav,ih (o+1) _ j (by simp;omega)]
   by_cases h1:o+1<=j/\j<o+1+r.length
   . rw[if_pos h1,if_pos (by simp only[wC];omega)]
     rw[show j-o=(j-(o+1))+1 by omega];simp
   . rw[if_neg h1]
     by_cases h2:j=o
     . subst h2
       rw[if_pos (by simp only[wC];omega),wV (by omega)]
       simp
     . rw[if_neg (by simp only[wC];omega),wT (Ne.symm h2)]
theorem zo3 {H:Heap}{b:Nat}{c:Array Value}{e:TypeId}{fz:Nat×Nat}(f:Obj->Obj)(h:H[b]? =some (.cells c e fz)) :
  H.modify b f=H.setIfInBounds b (f (.cells c e fz)):=by
 obtain⟨hlt,hb⟩:=wU.1 h
 apply wW
 intro i
 by_cases hi:b=i
 . subst hi;rw[wX];simp[hlt,hb]
 . rw[wT hi,wX];simp[hi]
theorem ztx {H:Heap}{b:Nat}(x y:Obj):(H.setIfInBounds b x).setIfInBounds b y=H.setIfInBounds b y:=by
 apply wW
 intro i
 by_cases hi:b=i
 . subst hi;simp[Array.getElem?_setIfInBounds]
 . rw[wT hi,wT hi,wT hi]
theorem zes {H:Heap}{b:Nat}{x:Obj}(h:H[b]? =some x):H.setIfInBounds b x=H:=by
 apply wW
 intro i
 by_cases hi:b=i
 . subst hi
   obtain⟨hlt,hb⟩:=wU.1 h
   rw[wV hlt,h]
 . rw[wT hi]
theorem za4 {b:Nat}{e:TypeId}{fz:Nat×Nat}:∀(vs:List Value) (o i:Nat) (c:Array Value) (w:World),w.heap[b]? =some (.cells c e fz) ->
  o+i+vs.length<=c.size->free c fz->(∀v∈vs,v.oneCell'=true) ->
  (storeCells ⟨b,o,none⟩ vs i).run P w= .ok () {w with heap:=w.heap.setIfInBounds b (.cells (zav c (o+i) vs) e fz)}
 | [],o,i,c,w,h,_,_,_=>by
   simp[storeCells,zav,zes h]
 | v::r,o,i,c,w,h,hl,hf,h1=>by
   simp only[wC]at hl
   have hi:o+i<c.size:=by omega
   have hc:w.cell? ⟨b,o+i,none⟩=some c[o+i]:=by rw[z46 h];simp[hi]
   have hfr:w.frozen? ⟨b,o+i,none⟩=false:=by
    obtain⟨lo,hi'⟩:=fz
    simp only[World.frozen?,h,Bool.and_eq_false_iff,decide_eq_false_iff_not]
    rcases hf with hf|hf<;>simp only at hf<;>omega
   simp only[storeCells,Sem.run_bind,zcp]
   rw[run_store P w _ v _ (h1 v (by simp)),hc]
   simp only[hfr,Bool.false_eq_true,if_false,Result.andThen_ok]
   have hw:(w.setCell ⟨b,o+i,none⟩ v)={w with heap:=w.heap.setIfInBounds b (.cells (c.setIfInBounds (o+i) v) e fz)}:=by
    simp only[World.setCell,zo3 _ h];rfl
   rw[hw]
   obtain⟨hlt,hb⟩:=wU.1 h
   rw[za4 (fz:=fz) (e:=e) r o (i+1) (c.setIfInBounds (o+i) v) _ (by simp[hlt]) (by simp;omega)
    (by
      rcases hf with hf|hf
      . exact .inl hf
      . exact .inr (by simpa using hf)) (fun x hx=>h1 x (by simp[hx]))]
   simp only[ztx]
   rfl
end runs
theorem RepS.oneCell {H:Heap}{G:Gh}{v:Value}{a:AV}(h:RepS H G v a):v.oneCell'=true:=by
 cases h with
 | s v h=>revert h;cases v<;>simp[isSc,Value.oneCell']
 | fn v f caps vs he hn hsc val hv hr=>subst he;unfold fnV;split<;>rfl
 | _=>rfl
end Go.Ev
