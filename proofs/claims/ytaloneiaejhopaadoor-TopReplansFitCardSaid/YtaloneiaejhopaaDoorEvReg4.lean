/-
  A region whose order is drawn: every order gives what the order of the text gives. No condition.
-/
import Derived.Test.YtaloneiaejhopaaDoorEvReg2
import Derived.OrdersIn
set_option linter.all false
open Array renaming getD_eq_getD_getElem?->wB,getElem?_eq_some_iff->wC,getElem?_eq_none->wD,foldl_toList->wE
open List renaming mk_mem_zipIdx_iff_getElem?->wF,all_eq_true->wG,pairwise_cons->wH,pairwise_append->wJ,length_cons->wK,foldl_cons->wL,mem_range->wM,range'->wN,range->wO
open Nat renaming le_refl->wP,zero_add->wQ,testBit_or->wR,lt_irrefl->wS,lt_or_ge->wT,add_zero->wU
open Bool renaming and_eq_true->wV,or_eq_true->wW
open Option renaming bind_eq_some_iff->wX,some.injEq->wY,map_eq_some_iff->wZ,bind_some->w0,ite_none_right_eq_some->w2
namespace Go.Ev
open Go
variable {im :Im} {gl:Gl} {cl:Cl} {P:Program} {F:Fence} {n N:Nat}
theorem zj8 {hp hp':Hp}(h:∀k,hp.get k=hp'.get k){k:Nat}:za0 hp k↔za0 hp' k:=by unfold za0;rw[h k]
theorem zqb {G:Gh}{hp hp':Hp}(h:∀k,hp.get k=hp'.get k){b:Nat}:Live G hp b↔Live G hp' b:=by
 unfold Live;simp only[zj8 h]
theorem Inv.ext {H:Heap}{G:Gh}{hp hp':Hp}(h:∀k,hp.get k=hp'.get k)(i:Inv H G hp):Inv H G hp' where
 obs k o hk:=i.obs k o ((h k).trans hk)
 out k hk:=i.out k ((h k).trans hk)
 dist k k' b r r' h1 h2 h3 h4:=i.dist k k' b r r' h1 h2 ((zj8 h).2 h3) ((zj8 h).2 h4)
 imm b hb:=⟨(i.imm b hb).1,fun hl=>(i.imm b hb).2 ((zqb h).2 hl)⟩
 lt b hb:=i.lt b ((zqb h).2 hb)
theorem Step.ext {H H':Heap}{G G':Gh}{hp hp' hp'':Hp}(h:∀k,hp'.get k=hp''.get k)(s:Step H G hp H' G' hp'):Step H G hp H' G' hp'' :=
 ⟨s.inv.ext h,s.le,s.size,s.same,fun b hb=>s.live b ((zqb h).2 hb),s.immNew⟩
theorem StOk.ext {H:Heap}{G:Gh}{s t:St}{tmps:Array Value}(h:Eqv s t)(i:StOk H G s tmps):StOk H G t tmps :=
 ⟨i.inv.ext h.hp,fun j=>by rw[<-h.fr j];exact i.fr j⟩
def zlb (o:Oper)(acc:Array Nat):Nat:=o.after.foldl (fun s e=>if Region.binds .any e then s|||2^e.on|||acc.getD e.on 0 else s) 0
theorem z5e (ops:Array Oper):Region.before ops=ops.toList.foldl (fun acc o=>acc.push (zlb o acc)) #[]:=by
 unfold Region.before zlb
 rw[<-wE]
theorem qe0 {l:List Oper}:∀{acc:Array Nat},(l.foldl (fun acc o=>acc.push (zlb o acc)) acc).size=acc.size+l.length /\
  (∀i,i<acc.size->(l.foldl (fun acc o=>acc.push (zlb o acc)) acc).getD i 0=acc.getD i 0) /\
  ∀k (hk:k<l.length),∃ac:Array Nat,ac.size=acc.size+k/\(∀i,i<acc.size+k->ac.getD i 0=(l.foldl (fun acc o=>acc.push (zlb o acc)) acc).getD i 0) /\
   (l.foldl (fun acc o=>acc.push (zlb o acc)) acc).getD (acc.size+k) 0=zlb l[k] ac:=by
 induction l with
 | nil=>intro acc;exact⟨rfl,fun _ _=>rfl,fun k hk=>by simp at hk⟩
 | cons o l ih =>
   intro acc
   obtain⟨h1,h2,h3⟩:=ih (acc:=acc.push (zlb o acc))
   simp only[wL,wK]at *
   have hp:∀i,i<acc.size->(acc.push (zlb o acc)).getD i 0=acc.getD i 0:=fun i hi=>by
    simp only[wB];rw[Array.getElem?_push];simp[Nat.ne_of_lt hi]
   refine⟨by rw[h1];simp;omega,fun i hi=>by rw[h2 i (by simp;omega),hp i hi],fun k hk=> ?_⟩
   cases k with
   | zero =>
     refine⟨acc,rfl,fun i hi=>by rw[h2 i (by simp;omega),hp i (by omega)],?_⟩
     rw[wU,h2 acc.size (by simp)]
     simp
   | succ k =>
     obtain⟨ac,g1,g2,g3⟩:=h3 k (by omega)
     refine⟨ac,by rw[g1];simp;omega,fun i hi=>g2 i (by simp;omega),?_⟩
     have:(acc.push (zlb o acc)).size+k=acc.size+(k+1):=by simp;omega
     rw[this]at g3
     simpa using g3
theorem z5f {o:Oper}{acc:Array Nat}{p:Nat}(h:(zlb o acc).testBit p=true):∃e∈o.after,Region.binds .any e=true/\(p=e.on\/(acc.getD e.on 0).testBit p=true):=by
 unfold zlb at h
 rw[<-wE]at h
 have key:∀(l:List Edge) (s:Nat),(l.foldl (fun s e=>if Region.binds .any e then s|||2^e.on|||acc.getD e.on 0 else s) s).testBit p=true ->
   s.testBit p=true\/∃e∈l,Region.binds .any e=true/\(p=e.on\/(acc.getD e.on 0).testBit p=true):=by
  intro l
  induction l with
  | nil=>intro s h;exact .inl h
  | cons e l ih =>
    intro s h
    rw[wL]at h
    rcases ih _ h with h|⟨e',he,hb⟩
    . by_cases hb:Region.binds .any e=true
      . rw[if_pos hb,wR,wR,wW,wW,Nat.testBit_two_pow,decide_eq_true_eq]at h
        rcases h with (h|h)|h
        . exact .inl h
        . exact .inr ⟨e,by simp,hb,.inl h.symm⟩
        . exact .inr ⟨e,by simp,hb,.inr h⟩
      . rw[if_neg hb]at h;exact .inl h
    . exact .inr ⟨e',by simp[he],hb⟩
 rcases key _ _ h with h|⟨e,he,hb⟩
 . simp at h
 . exact⟨e,by simpa using he,hb⟩
theorem zzz {ops:Array Oper}{j p:Nat}(h:((Region.before ops).getD j 0).testBit p=true) :
  ∃o,ops[j]? =some o/\∃e∈o.after,Region.binds .any e=true/\(p=e.on\/(e.on<j/\((Region.before ops).getD e.on 0).testBit p=true)):=by
 rw[z5e]at h ⊢
 obtain⟨h1,_,h3⟩:=qe0 (l:=ops.toList) (acc:= #[])
 by_cases hj:j<ops.size
 . obtain⟨ac,g1,g2,g3⟩:=h3 j (by simpa using hj)
   simp only[List.size_toArray,List.length_nil,wQ]at g1 g2 g3
   rw[g3]at h
   obtain⟨e,he,hb,hp⟩:=z5f h
   refine⟨ops[j],by simp[hj],e,by simpa using he,hb,?_⟩
   rcases hp with hp|hp
   . exact .inl hp
   . by_cases hlt:e.on<j
     . rw[g2 e.on hlt]at hp;exact .inr ⟨hlt,hp⟩
     . rw[wB,wD (by omega)]at hp;simp at hp
 . rw[wB,wD (by rw[h1];simp;omega)]at h;simp at h
def Down (ops:Array Oper)(listed:Array Bool):Prop :=
 ∀i,listed.getD i false=true->∀o,ops[i]? =some o->∀e∈o.after,Region.binds .any e=true->listed.getD e.on false=true
theorem zq3 {ops:Array Oper}{listed:Array Bool}(hd:Down ops listed):∀(j p:Nat),(∀o,ops[j]? =some o->∀e∈o.after,Region.binds .any e=true->listed.getD e.on false=true) ->
  ((Region.before ops).getD j 0).testBit p=true->listed.getD p false=true:=by
 intro j
 induction j using Nat.strongRecOn with
 | _ j ih =>
   intro p hj h
   obtain⟨o,ho,e,he,hb,hp⟩:=zzz h
   rcases hp with rfl|⟨hlt,hp⟩
   . exact hj o ho e he hb
   . exact ih e.on hlt p (hd e.on (hj o ho e he hb)) hp
def OpEx (P:Program)(gl:Gl)(cl:Cl):Prop :=
 ∀{im:Im} (o:Oper) (m:MOp) (a:Act) (w:World) (G:Gh) (st:St) (v:AV) (us:Hp),GlOk w.heap G gl->StOk w.heap G st a.tmps->zan P im o=some m->zaa gl cl st o.dst m=some (v,us) ->
  ∃v' w' G',Kept w w'/\Step w.heap G st.hp w'.heap G' (us++st.hp)/\RepT w'.heap G' v' v
theorem ztt {o:Oper}{a:Act}{w:World}{E:Prop}(h:o.wpIn Fence.wide n P a w (fun _ _=>E) (fun _ _ _=>False)):E:=by
 unfold Oper.wpIn at h
 have hh:=h.2
 generalize (o.semAt Fence.wide.round a.eval).run P w=r at hh
 have hroom:∀k,Fence.wide.room k:=fun k=>room_wide k
 cases r with
 | ok x w' =>
   cases x with
   | value v=>exact hh
   | skip=>exact hh
   | defer d=>exact hh
   | enter f args =>
     obtain⟨e,w'',fr,hR,_⟩:=hh.2.2 [] (hroom _)
     cases e with
     | returned v=>exact hR
     | panicked c=>exact hR.elim
     | outgrown=>obtain⟨_,_,h⟩:=hR;exact h.elim
   | row row args =>
     obtain⟨v,w'',hR,_⟩:=hh.2 default [] (hroom _)
     exact hR
   | round l f tmps as body =>
     obtain⟨e,w'',hR,_⟩:=hh.2.2 default [] (hroom _)
     cases e with
     | returned v=>exact hR
     | panicked c=>exact hR.elim
     | outgrown=>obtain⟨_,_,h⟩:=hR;exact h.elim
   | _=>exact hh.elim
 | halt x w'=>cases x<;>exact hh.elim
theorem zcv (h:OpOk Fence.wide n P gl cl):OpEx P gl cl:=fun o m a w G st v us hg hst hc hs =>
 ztt (h o m a w G st v us hg hst hc hs (fun _ _=>_) (fun _ _ _=>False) fun v' w' G' h1 h2 h3=>⟨v',w',G',h1,h2,h3⟩)
def Real (gl:Gl)(N:Nat)(st:St):Prop:=∃(w:World) (G:Gh) (a:Act),GlOk w.heap G gl/\StOk w.heap G st a.tmps/\a.tmps.size=N
variable {ops :Array Oper}
theorem zdm {α β:Type}{f:α->Option β}:∀{l:List α} {r:List β},mapO f l=some r->r.length=l.length/\∀i (h:i<l.length) (h':i<r.length),f l[i]=some r[i]
 | [],r,h=>by simp only[mapO,wY]at h;subst h;exact⟨rfl,fun i h=>by simp at h⟩
 | a::l,r,h=>by
   simp only[mapO,wX,wZ]at h
   obtain⟨b,hb,s,hs,rfl⟩:=h
   obtain⟨h1,h2⟩:=zdm hs
   refine⟨by simp[h1],fun i hi hi'=> ?_⟩
   cases i with
   | zero=>exact hb
   | succ i=>exact h2 i (by simpa using hi) (by simpa using hi')
theorem zim {o:Oper}{f:FO}(h:zf6 P im ops o=some f):zan P im o=some f.m/\f.d=o.dst /\
  (o.guard=none/\f.g=none\/∃j want c,o.guard=some (j,want)/\(ops[j]?).bind (·.dst)=some c/\f.g=some (c,want)):=by
 simp only[zf6,wX]at h
 obtain⟨m,hm,h⟩:=h
 split at h
 . rename_i hg;cases h;exact⟨hm,rfl,.inl ⟨hg,rfl⟩⟩
 . rename_i j want hg
   simp only[wZ]at h
   obtain⟨c,hc,rfl⟩:=h
   exact⟨hm,rfl,.inr ⟨j,want,c,hg,hc,rfl⟩⟩
theorem zkp {H:Heap}{G:Gh}{st:St}{tmps:Array Value}{o:Oper}{f:FO}{b:Bool}(hst:StOk H G st tmps)(hc:zf6 P im ops o=some f)(h:f.wants st.fr=some b) :
  Region.wanted o (yielded ops tmps)=b:=by
 obtain⟨_,_,hg⟩:=zim hc
 unfold FO.wants at h
 rcases hg with ⟨h1,h2⟩|⟨j,want,c,h1,h2,h3⟩
 . rw[h2]at h;simp only[wY]at h;subst h;simp[Region.wanted,h1]
 . rw[h3]at h
   simp only at h
   have hrep:=hst.fr c
   split at h
   . rename_i t ht
     rw[ht]at hrep
     have hv:=zb7 hrep
     simp only[wY]at h
     subst h
     have hlt:c<tmps.size:=by
      rcases wT c tmps.size with h'|h'
      . exact h'
      . rw[wB,wD h']at hv;cases hv
     have:tmps[c]? =some (.bool t):=by rw[wB]at hv;simp[hlt]at hv ⊢;exact hv
     simp only[Region.wanted,h1,yielded,h2,w0,this]
     cases t<;>cases want<;>rfl
   . rename_i ht
     rw[ht]at hrep
     obtain⟨vs,hv,hs,_⟩:=hrep
     simp only[wY]at h
     subst h
     have:(tmps[c]? =none)\/∃vs,tmps[c]? =some (.tuple vs):=by
      cases hx:tmps[c]? with
      | none=>exact .inl rfl
      | some x=>rw[wB,hx]at hv;exact .inr ⟨vs,by simpa using hv⟩
     simp only[Region.wanted,h1,yielded,h2,w0]
     rcases this with h|⟨vs',h⟩<;>rw[h]<;>rfl
   . cases h
theorem znu {H:Heap}{G:Gh}:RepT H G undef (.tup []):=⟨#[],rfl,rfl,fun i h=>by simp at h⟩
theorem z08 (hEx:OpEx P gl cl){o:Oper}{f:FO}{st:St}{t:Tr}(hc:zf6 P im ops o=some f)(hd:∀d,o.dst=some d->d<N)(hr:Real gl N st)(h:foStep gl cl st f=some t) :
  Real gl N (st.after f t):=by
 obtain⟨w,G,a,hg,hst,hN⟩:=hr
 obtain⟨hm,hdst,_⟩:=zim hc
 unfold foStep at h
 split at h
 . cases h
 . simp only[wZ]at h
   obtain⟨r,hr,rfl⟩:=h
   rw[hdst]at hr
   obtain⟨v',w',G',_,hs,hv⟩:=hEx o f.m a w G st r.1 r.2 hg hst hm hr
   refine⟨w',G',a.put o.dst v',hg.mono hs.le,?_,by rw[zcn,hN]⟩
   rw[St.after,hdst]
   exact zga hst (fun i hi=>by rw[hN];exact hd i hi) hs hv
 . cases h
   refine⟨w,G,a.put o.dst undef,hg,?_,by rw[zcn,hN]⟩
   rw[St.after,hdst]
   exact zga hst (fun i hi=>by rw[hN];exact hd i hi) (Step.refl hst.inv) znu
theorem qd3 (hOp:OpOk F n P gl cl)(hF:∀f,F.fn f){j:Nat}{o:Oper}{f:FO}{a:Act}{w:World}{G:Gh}{st:St}{t:Tr}(hj:ops[j]? =some o)(hc:zf6 P im ops o=some f)
  (hd:∀d,o.dst=some d->d<a.tmps.size) (hg:GlOk w.heap G gl) (hst:StOk w.heap G st a.tmps) (h:foStep gl cl st f=some t) {K:Act->World->Prop} {Q:Exit->Act->World->Prop}
  (hK:∀a' w' G',Kept w w'->Step w.heap G st.hp w'.heap G' (st.after f t).hp->StOk w'.heap G' (st.after f t) a'.tmps->a'.tmps.size=a.tmps.size->a'.defers=a.defers->K a' w') :
  wpOpIn F n P ops Q j K a w:=by
 obtain⟨hm,hdst,_⟩:=zim hc
 have hdef:∀v,(a.put o.dst v).defers=a.defers:=fun v=>by cases o.dst<;>rfl
 unfold foStep at h
 unfold wpOpIn
 simp only[hj]
 split at h
 . cases h
 . rename_i hw
   rw[zkp hst hc hw,if_pos rfl]
   simp only[wZ]at h
   obtain⟨r,hr,rfl⟩:=h
   rw[hdst]at hr
   refine hOp o f.m a w G st r.1 r.2 hg hst hm hr K Q fun v' w' G' hk hs hv=>hK _ _ G' hk hs ?_ (zcn _ _ _) (hdef _)
   rw[St.after,hdst]
   exact zga hst hd hs hv
 . rename_i hw
   rw[zkp hst hc hw,if_neg (by simp)]
   cases h
   refine⟨fun f _=>hF f,hK _ _ G (Kept.refl w) (Step.refl hst.inv) ?_ (zcn _ _ _) (hdef _)⟩
   rw[St.after,hdst]
   exact zga hst hd (Step.refl hst.inv) znu
structure DrawOk (P:Program)(ops:Array Oper)(fo:Nat->FO)(T:Nat->Tr)(N:Nat):Prop where
 comp:∀i o,ops[i]? =some o->zf6 P im ops o=some (fo i)
 dst:∀(i:Nat) (o:Oper),ops[i]? =some o->∀d,o.dst=some d->d<N
 edge:∀(i:Nat) (o:Oper),ops[i]? =some o->∀e∈o.after,Region.binds .any e=true->e.on<i
 cOk:∀i,i<ops.size->(fo i).m.cOk=true
 pair:∀i j,i<j->j<ops.size->((Region.before ops).getD j 0).testBit i=false->(fo i).apart (fo j)=true/\((fo i).clash (fo j)=true->Disj (T i).2.2 (T j).2.2)
theorem z8p (hOp:OpOk F n P gl cl)(hEx:OpEx P gl cl)(hF:∀f,F.fn f){fo:Nat->FO}{T:Nat->Tr}(hD:DrawOk (im:=im) P ops fo T N){Q:Exit->Act->World->Prop} :
  ∀(fuel:Nat) (listed:Array Bool) (l:List Nat) (a:Act) (w:World) (G:Gh) (st:St),listed.size=ops.size->l.length<=fuel->l.Pairwise (· < ·) ->
   (∀i,i∈l↔i<ops.size/\listed.getD i true=false)->Down ops listed->GlOk w.heap G gl->StOk w.heap G st a.tmps->a.tmps.size=N->OkRun gl cl fo T l st ->
   (∀a' w' G' st',Kept w w'->Step w.heap G st.hp w'.heap G' st'.hp->StOk w'.heap G' st' a'.tmps->a'.tmps.size=N->a'.defers=a.defers->Eqv (runT fo T l st) st'->Q .normal a' w') ->
   wpAnyIn F n P .any ops Q fuel listed a w:=by
 have hready:∀(listed:Array Bool) (l:List Nat),listed.size=ops.size->l.Pairwise (· < ·)->(∀i,i∈l↔i<ops.size/\listed.getD i true=false)->Region.ready .any ops listed=[]->l=[]:=by
  intro listed l hsz hs hl h0
  cases l with
  | nil=>rfl
  | cons i l =>
    exfalso
    obtain⟨hi,hun⟩:=(hl i).1 (by simp)
    have:i∈Region.ready .any ops listed:=by
     refine mem_ready.2 ⟨hun,ops[i],by simp[hi],fun e he hb=> ?_⟩
     have hlt:=hD.edge i ops[i] (by simp[hi]) e he hb
     cases hx:listed.getD e.on true with
     | true =>
       have:e.on<listed.size:=by omega
       simp only[wB]at hx ⊢
       simp[this]at hx ⊢
       exact hx
     | false =>
       have hm:=(hl e.on).2 ⟨by omega,hx⟩
       rcases List.mem_cons.1 hm with h|h
       . omega
       . have:=(wH.1 hs).1 e.on h;omega
    rw[h0]at this;cases this
 intro fuel
 induction fuel with
 | zero =>
   intro listed l a w G st hsz hlen hs hl hdown hg hst hN hrun hpost
   have h0:l=[]:=List.eq_nil_of_length_eq_zero (by omega)
   subst h0
   refine⟨?_,hpost a w G st (Kept.refl w) (Step.refl hst.inv) hst hN rfl (Eqv.refl _)⟩
   apply List.eq_nil_iff_forall_not_mem.2
   intro i hi
   obtain⟨h1,o,ho,_⟩:=mem_ready.1 hi
   have:=(hl i).2 ⟨(wC.1 ho).1,h1⟩
   cases this
 | succ fuel ih =>
   intro listed l a w G st hsz hlen hs hl hdown hg hst hN hrun hpost
   refine⟨fun h0=> ?_,fun j hj=> ?_⟩
   . have:=hready listed l hsz hs hl h0
     subst this
     exact hpost a w G st (Kept.refl w) (Step.refl hst.inv) hst hN rfl (Eqv.refl _)
   . obtain⟨hun,o,ho,hall⟩:=mem_ready.1 hj
     have hjlt:j<ops.size:=(wC.1 ho).1
     have hjl:j∈l:=(hl j).2 ⟨hjlt,hun⟩
     obtain⟨pre,post,rfl⟩:=List.append_of_mem hjl
     have hsplit:=wJ.1 hs
     have hpre:∀p∈pre,p<j:=fun p hp=>hsplit.2.2 p hp j (by simp)
     have hpreun:∀p∈pre,p<ops.size/\listed.getD p true=false:=fun p hp=>(hl p).1 (by simp[hp])
     have hfree:∀p∈pre,(fo p).m.cOk=true/\Apart (fo p) (fo j)/\((fo p).clash (fo j)=true->Disj (T p).2.2 (T j).2.2):=fun p hp=>by
      have hbit:((Region.before ops).getD j 0).testBit p=false:=by
       cases hb:((Region.before ops).getD j 0).testBit p with
       | false=>rfl
       | true =>
         exfalso
         have:=zq3 hdown j p (fun o' ho' e he hbd=>hall e (by rw[ho]at ho';cases ho';exact he) hbd) hb
         have h2:=(hpreun p hp).2
         have hlt:p<listed.size:=by rw[hsz];exact(hpreun p hp).1
         simp only[wB]at this h2
         simp[hlt]at this h2
         rw[this]at h2;cases h2
      obtain⟨h1,h2⟩:=hD.pair p j (hpre p hp) hjlt hbit
      exact⟨hD.cOk p (hpreun p hp).1,FO.apart_spec h1,h2⟩
     obtain⟨⟨k1,k2⟩,k3⟩:=znz (S:=Real gl N) (fun s ⟨w,G,tm,_,h,_⟩=>h.closed) (hD.cOk j hjlt) pre st
      (fun p hp s hr h=>have hlt:=(hpreun p hp).1;z08 hEx (hD.comp p ops[p] (by simp[hlt])) (hD.dst p ops[p] (by simp[hlt])) hr h) hfree ⟨w,G,a,hg,hst,hN⟩ hrun
     refine qd3 hOp hF ho (hD.comp j o ho) (fun d hd=>by rw[hN];exact hD.dst j o ho d hd) hg hst k1 fun a' w' G' hk' hs' hst' hsz' hdf'=> ?_
     refine ih (listed.setIfInBounds j true) (pre++post) a' w' G' _ (by simp[hsz]) (by simp at hlen ⊢;omega) ?_ (fun i=> ?_) (fun i hi o' ho' e he hb=> ?_) (hg.mono hs'.le) hst' (hsz'.trans hN) k2 ?_
     . exact wJ.2 ⟨hsplit.1,(wH.1 hsplit.2.1).2,fun p hp q hq=>hsplit.2.2 p hp q (by simp[hq])⟩
     . by_cases hij:j=i
       . subst hij
         have h1:j∉pre:=fun h=>wS _ (hpre j h)
         have h2:j∉post:=fun h=>wS _ ((wH.1 hsplit.2.1).1 j h)
         have:j<listed.size:=by omega
         simp[h1,h2,this]
       . have hne:¬i=j:=fun h=>hij h.symm
         rw[getD_set_ne true hij,<-hl i]
         simp[hne]
     . by_cases hij:j=i
       . subst hij
         rw[ho]at ho';cases ho'
         exact getD_set_true (hall e he hb)
       . rw[getD_set_ne false hij]at hi
         exact getD_set_true (hdown i hi o' ho' e he hb)
     . intro a'' w'' G'' st'' h1 h2 h3 h4 h5 h6
       exact hpost a'' w'' G'' st'' (hk'.trans h1) (hs'.trans h2) h3 h4 (h5.trans hdf') (k3.trans h6)
theorem zu7 {fos:List FO}(hfos:mapO (zf6 P im ops) ops.toList=some fos)(hok:zxd ops fos=true)(hdst:∀(i:Nat) (o:Oper),ops[i]? =some o->∀d,o.dst=some d->d<N)
  {fo:Nat->FO} {T:Nat->Tr} {trs:List Tr} (hfo:∀i (h:i<fos.length),fo i=fos[i]) (hT:∀i (h:i<trs.length),T i=trs[i]) (htl:trs.length=fos.length)
  (hprs:(zpz ops fos).all (fun p=>disj ((trs.map (·.2.2)).getD p.1 []) ((trs.map (·.2.2)).getD p.2 []))=true):DrawOk (im:=im) P ops fo T N:=by
 obtain⟨hl,hm⟩:=zdm hfos
 have hl':fos.length=ops.size:=by simpa using hl
 unfold zxd at hok
 simp only[wV]at hok
 obtain⟨⟨he,hc⟩,hp⟩:=hok
 refine⟨fun i o hi=> ?_,hdst,fun i o hi e hee hb=> ?_,fun i hi=> ?_,fun i j hij hj hbit=> ?_⟩
 . obtain⟨hlt,rfl⟩:=wC.1 hi
   rw[hfo i (by omega)]
   exact hm i (by simpa using hlt) (by omega)
 . obtain⟨hlt,rfl⟩:=wC.1 hi
   unfold z4h at he
   rw[wG]at he
   have h1:=he (ops[i],i) (by rw[wF];simp[hlt])
   rw[wG]at h1
   have h2:=h1 e (by simpa using hee)
   simpa[hb]using h2
 . rw[wG]at hc
   rw[hfo i (by omega)]
   exact hc _ (List.getElem_mem _)
 . rw[wG]at hp
   have h1:=hp (fos[j],j) (by rw[wF];simp[hl',hj])
   rw[wG]at h1
   have hmem:(fos[i],i)∈(fos.take j).zipIdx:=by rw[wF,List.getElem?_take];simp[hij,show i<fos.length by omega]
   have h2:=h1 (fos[i],i) hmem
   simp only[hbit,Bool.false_or]at h2
   rw[hfo i (by omega),hfo j (by omega)]
   refine⟨h2,fun hcl=> ?_⟩
   rw[wG]at hprs
   have h3:=hprs (i,j) (by
    unfold zpz
    simp only[List.mem_flatMap,List.mem_filterMap]
    refine⟨(fos[j],j),by rw[wF];simp[hl',hj],(fos[i],i),hmem,?_⟩
    simp only[hbit,hcl,Bool.not_false,Bool.and_self,if_true])
   rw[z8t]at h3
   have e1:(trs.map (·.2.2)).getD i []=(T i).2.2:=by rw[hT i (by omega)];simp[show i<trs.length by omega]
   have e2:(trs.map (·.2.2)).getD j []=(T j).2.2:=by rw[hT j (by omega)];simp[show j<trs.length by omega]
   simp only[e1,e2]at h3
   exact h3
theorem qee (hmix:P.follows .mixedOrders=true)(hOp:OpOk F n P gl cl)(hEx:OpEx P gl cl)(hF:∀f,F.fn f){id:Nat}{fos:List FO}{a:Act}{w:World}{G:Gh}{st st':St}
  (hfos:mapO (zf6 P im ops) ops.toList=some fos) (hok:zxd ops fos=true) (hdst:∀(i:Nat) (o:Oper),ops[i]? =some o->∀d,o.dst=some d->d<a.tmps.size)
  (hg:GlOk w.heap G gl) (hst:StOk w.heap G st a.tmps) {ks:List (List Nat)} (hev:zb0 gl cl fos st=some (st',ks))
  (hprs:(zpz ops fos).all (fun p=>disj (ks.getD p.1 []) (ks.getD p.2 []))=true) {Q:Exit->Act->World->Prop}
  (hQ:∀a' w' G',Kept w w'->Step w.heap G st.hp w'.heap G' st'.hp->StOk w'.heap G' st' a'.tmps->a'.tmps.size=a.tmps.size->a'.defers=a.defers->Q .normal a' w') :
  (Code.region id ops true).wpIn F n P Q a w:=by
 obtain⟨trs,h1,rfl,h3⟩:=zon fos st st' ks 0 hev
 obtain⟨hl,_⟩:=zdm hfos
 have hl':fos.length=ops.size:=by simpa using hl
 let fo:Nat->FO:=fun i=>fos.getD i default
 let T:Nat->Tr:=fun i=>trs.getD i (.unk,[],[])
 have hfo:∀i (h:i<fos.length),fo i=fos[i]:=fun i h=>by simp[fo,h]
 have hT:∀i (h:i<trs.length),T i=trs[i]:=fun i h=>by simp[T,h]
 obtain⟨k1,k2⟩:=h3 fo T (fun i h=>by rw[wQ];exact hfo i h) (fun i h=>by rw[wQ];exact hT i h)
 have hD:=zu7 hfos hok hdst hfo hT h1 hprs
 have hrange:wN 0 fos.length=wO ops.size:=by rw[hl',List.range_eq_range']
 rw[hrange]at k1 k2
 refine wpIn_region_any hmix (z8p hOp hEx hF hD ops.size _ (wO ops.size) a {w with drawn:=w.drawn+1} G st (by simp) (by simp) List.pairwise_lt_range (fun i=> ?_) (fun i hi=> ?_) hg hst rfl k1 ?_)
 . rw[wM]
   constructor
   . intro h;exact⟨h,by simp[wB,h]⟩
   . exact fun h=>h.1
 . exfalso
   simp only[wB]at hi
   by_cases h:i<ops.size<;>simp[h]at hi
 . intro a' w' G' s2 g1 g2 g3 g4 g5 g6
   rw[k2]at g6
   exact hQ a' w' G' g1 (g2.ext fun k=>(g6.hp k).symm) (g3.ext g6.symm) g4 g5
end Go.Ev
namespace Go.Ev
open Go
variable {im :Im} {gl:Gl} {cl:Cl} {P:Program} {F:Fence} {n:Nat} {ops:Array Oper}
def zf2 (ops:Array Oper)(i:Nat):List Nat:=wN i (ops.size-i)
theorem zf1 {i:Nat}(h:i<ops.size):zf2 ops i=i::zf2 ops (i+1):=by
 unfold zf2
 obtain⟨k,hk⟩:∃k,ops.size-i=k+1:=⟨ops.size-i-1,by omega⟩
 rw[hk,List.range'_succ,show ops.size-(i+1)=k by omega]
theorem zql {i:Nat}(h:ops.size<=i):zf2 ops i=[]:=by
 unfold zf2;rw[show ops.size-i=0 by omega];rfl
theorem zdf :∀{fuel:Nat} {g:Option (Nat×Bool)} {lo i:Nat} {its:Its} {q:Nat},zch P im ops fuel g lo i=some (its,q)->i<=q
 | 0,_,_,_,_,_,h=>by simp[zch]at h
 | fuel+1,g,lo,i,its,q,h=>by
   rw[zch]at h
   split at h
   . cases h;exact wP _
   . split at h
     . simp only[wX,wZ]at h
       obtain⟨m,_,z,hz,h⟩:=h
       cases h
       exact Nat.le_of_succ_le (zdf (its:=z.1) (q:=z.2) hz)
     . split at h
       . cases h;exact wP _
       . split at h
         . simp only[wX]at h
           obtain⟨z,hz,h⟩:=h
           have h1:=zdf (its:=z.1) (q:=z.2) hz
           split at h
           . split at h
             . simp only[wX]at h
               obtain⟨x,_,y,_,h⟩:=h
               split at h
               . rw[w2,wZ]at h
                 obtain⟨_,v,hv,h⟩:=h
                 cases h
                 have h2:=zdf (its:=v.1) (q:=v.2) hv
                 omega
               . cases h
             . cases h
           . cases h
         . cases h;exact wP _
theorem zou {fuel:Nat}{g:Option (Nat×Bool)}{lo i:Nat}{its:Its}{q:Nat}{o:Oper}(ho:ops[i]? =some o)(hg:o.guard=g)(h:zch P im ops fuel g lo i=some (its,q)):i<q:=by
 cases fuel with
 | zero=>simp[zch]at h
 | succ fuel =>
   rw[zch,ho]at h
   simp only[hg,if_true,wX,wZ]at h
   obtain⟨m,_,z,hz,h⟩:=h
   cases h
   exact zdf (its:=z.1) (q:=z.2) hz
structure IteAt (P:Program)(ops:Array Oper)(fuel:Nat)(g:Option (Nat×Bool))(lo i:Nat)(its:Its)(q:Nat)(o:Oper)(j:Nat)(want:Bool)(blk:Its)(q1:Nat)(o1:Oper)(c d l h:Nat)
  (x y:Operand) (x' y':Opd) (rest:Its):Prop where
 guard:o.guard=some (j,want)
 ne:o.guard≠g
 inner:zch P im ops fuel (some (j,want)) i i=some (blk,q1)
 at1:ops[q1]? =some o1
 dst1:o1.dst=some d
 op1:o1.op= .pick (.tmp c) x y
 guard1:o1.guard=g
 test:(ops[j]?).bind (·.dst)=some c
 opx:zag x=some x'
 opy:zag y=some y'
 first:(ops[i]?).bind (·.dst)=some l
 last:(ops[q1-1]?).bind (·.dst)=some h
 chk:z5c P im ops i q1 j c l (h+1) want=true
 out:(if want then y' else x').out l (h+1)=true
 more:zch P im ops fuel g lo (q1+1)=some (rest,q)
 eq:its= .ite c want blk l (h+1) d x' y' rest
theorem zjo {fuel:Nat}{g:Option (Nat×Bool)}{lo i:Nat}{its:Its}{q:Nat}(h:zch P im ops (fuel+1) g lo i=some (its,q)) :
  (its= .nil/\q=i) \/
  (∃o m rest,ops[i]? =some o/\o.guard=g/\zan P im o=some m/\zch P im ops fuel g lo (i+1)=some (rest,q)/\its= .op o.dst m rest) \/
  (∃o j want blk q1 o1 c d l hh x y x' y' rest,ops[i]? =some o/\IteAt (im:=im) P ops fuel g lo i its q o j want blk q1 o1 c d l hh x y x' y' rest):=by
 rw[zch]at h
 split at h
 . cases h;exact .inl ⟨rfl,rfl⟩
 . rename_i o ho
   split at h
   . rename_i hg
     simp only[wX,wZ]at h
     obtain⟨m,hm,z,hz,h⟩:=h
     cases h
     exact .inr (.inl ⟨o,m,z.1,ho,hg,hm,hz,rfl⟩)
   . rename_i hg
     split at h
     . cases h;exact .inl ⟨rfl,rfl⟩
     . rename_i j want hgd
       split at h
       . simp only[wX]at h
         obtain⟨z,hz,h⟩:=h
         split at h
         . rename_i d c x y g' _ _ _ hq
           split at h
           . rename_i hc
             simp only[wX]at h
             obtain⟨x',hx,y',hy,h⟩:=h
             split at h
             . rename_i l hh hl hlast
               rw[w2,wZ,wV]at h
               obtain⟨hb,v,hv,h⟩:=h
               cases h
               exact .inr (.inr ⟨o,j,want,z.1,z.2,_,c,d,l,hh,x,y,x',y',v.1,ho,⟨hgd,hg,hz,hq,rfl,rfl,hc.1,wX.2 hc.2,hx,hy,hl,hlast,hb.1,hb.2,hv,rfl⟩⟩)
             . cases h
           . cases h
         . cases h
       . cases h;exact .inl ⟨rfl,rfl⟩
theorem zkk {i q k c lo hi:Nat}{want:Bool}(h:z5c P im ops i q k c lo hi want=true):∀r,i<=r->r<q->∃o d,ops[r]? =some o/\o.dst=some d/\lo<=d/\d<hi/\d≠c /\
  (∀m,zan P im o=some m->zbk m=false)/\∃j w,o.guard=some (j,w)/\(j=k/\w=want\/i<=j/\j<r):=by
 intro r h1 h2
 unfold z5c at h
 rw[wG]at h
 have h:=h r (wM.2 h2)
 simp only[wW,decide_eq_true_eq,show ¬r<i by omega,false_or]at h
 split at h
 . rename_i o ho
   simp only[wV]at h
   obtain⟨⟨hd,hm⟩,hg⟩:=h
   split at hd
   . rename_i d hdst
     simp only[wV,decide_eq_true_eq,bne_iff_ne,ne_eq]at hd
     split at hg
     . rename_i j w hgd
       refine⟨o,d,ho,hdst,hd.1.1,hd.1.2,hd.2,fun m hm'=> ?_,j,w,hgd,?_⟩
       . rw[hm']at hm;simpa using hm
       . simpa using hg
     . cases hg
   . cases hd
 . cases h
def Its.within (lo hi:Nat):Its->Prop
 | .nil=>True
 | .op d m rest=>(∃x,d=some x/\lo<=x/\x<hi)/\zbk m=false/\rest.within lo hi
 | .ite _ _ _ l h d _ _ rest=>(lo<=l/\h<=hi)/\(lo<=d/\d<hi)/\rest.within lo hi
theorem zfm {lo' hi':Nat}:∀{fuel:Nat} {g:Option (Nat×Bool)} {lo i:Nat} {its:Its} {q:Nat},zch P im ops fuel g lo i=some (its,q) ->
  (∀r,i<=r->r<q->∃o d,ops[r]? =some o/\o.dst=some d/\lo'<=d/\d<hi'/\(∀m,zan P im o=some m->zbk m=false))->its.within lo' hi'
 | 0,_,_,_,_,_,h,_=>by simp[zch]at h
 | fuel+1,g,lo,i,its,q,h,hr=>by
   rcases zjo h with ⟨rfl,_⟩|⟨o,m,rest,ho,hg,hm,hrest,rfl⟩|⟨o,j,want,blk,q1,o1,c,d,l,hh,x,y,x',y',rest,ho,hI⟩
   . trivial
   . have hge:=zdf hrest
     obtain⟨o',d,ho',hd,h1,h2,h3⟩:=hr i (wP _) (by omega)
     rw[ho]at ho';cases ho'
     exact⟨⟨d,hd,h1,h2⟩,h3 m hm,zfm hrest fun r a b=>hr r (by omega) b⟩
   . have hge:=zdf hI.more
     have hgt:=zou ho hI.guard hI.inner
     rw[hI.eq]
     have hdst:∀r d,i<=r->r<q->(ops[r]?).bind (·.dst)=some d->lo'<=d/\d<hi':=fun r d a b hd=>by
      obtain⟨o',d',ho',hd',h1,h2,_⟩:=hr r a b
      rw[ho']at hd
      simp only[w0,hd',wY]at hd
      subst hd;exact⟨h1,h2⟩
     have e1:=hdst i l (wP _) (by omega) hI.first
     have e2:=hdst (q1-1) hh (by omega) (by omega) hI.last
     have e3:=hdst q1 d (by omega) (by omega) (by rw[hI.at1];exact hI.dst1)
     exact⟨⟨e1.1,e2.2⟩,e3,zfm hI.more fun r a b=>hr r (by omega) b⟩
theorem z4z (fr:Fr)(lo hi d:Nat)(x:AV)(i:Nat):Fr.get (.set d x::.clr lo hi::fr) i=if d=i then x else if lo<=i/\i<hi then .unk else fr.get i:=rfl
theorem zhe {lo hi:Nat}:∀{its:Its} {st st':St},its.within lo hi->zbz gl cl its st=some st' ->
  (∀k,st.hp.get k≠none->st'.hp.get k=st.hp.get k)/\∀i,¬(lo<=i/\i<hi)->st'.fr.get i=st.fr.get i
 | .nil,st,st',_,h=>by simp only[zbz,wY]at h;subst h;exact⟨fun _ _=>rfl,fun _ _=>rfl⟩
 | .op d m rest,st,st',hw,h=>by
   simp only[zbz,wX]at h
   obtain⟨⟨v,us⟩,hr,h⟩:=h
   obtain⟨⟨x,rfl,hx⟩,hm,hw⟩:=hw
   obtain⟨h1,h2⟩:=zhe hw h
   have hold:∀k,st.hp.get k≠none->(us++st.hp).get k=st.hp.get k:=fun k hk=>by
    rw[Hp.get_append,Hp.get_none fun b hb=> ?_]
    rcases zlr hr k b hb with h|⟨h,_⟩
    . exact hk h
    . rw[hm]at h;cases h
   refine⟨fun k hk=> ?_,fun i hi'=> ?_⟩
   . rw[h1 k (by show(us++st.hp).get k≠none;rw[hold k hk];exact hk)];exact hold k hk
   . rw[h2 i hi',St.upd,ztu,if_neg]
     intro e;cases e;exact hi' hx
 | .ite c want blk l hh d a b rest,st,st',hw,h=>by
   obtain⟨hl,hd,hw⟩:=hw
   simp only[zbz]at h
   split at h
   . simp only[wX]at h
     obtain⟨x,_,h⟩:=h
     obtain⟨h1,h2⟩:=zhe hw h
     refine⟨h1,fun i hi'=> ?_⟩
     rw[h2 i hi',z4z,if_neg (fun e=>hi' (by omega)),if_neg (fun e=>hi' (by omega))]
   . cases h
noncomputable def Gh.cut (G:Gh)(hp:Hp):Gh:={G with reg:=fun k=>match hp.get k with|some _=>G.reg k|none=>none}
theorem z81 {H H1:Heap}{G G1:Gh}{hp hp1:Hp}(hi:Inv H G hp)(hcl:∀k o,hp.get k=some o->∀j∈zdd o,hp.get j≠none)(hs:Step H G hp H1 G1 hp1)
  (hold:∀k,hp.get k≠none->hp1.get k=hp.get k):Step H G hp H1 (G1.cut hp) hp:=by
 have hcut:∀k,hp.get k≠none->(G1.cut hp).reg k=G1.reg k:=fun k hk=>by
  cases h:hp.get k with
  | none=>exact absurd h hk
  | some o=>simp[Gh.cut,h]
 obtain⟨hinv,hlive⟩:=z2v (G':=G1.cut hp) (hp':=hp) hs.inv id (fun b=>Iff.rfl) (fun i l h=>h)
  (fun k o hk=>.inl ⟨by rw[id,hold k (by simp[hk]),hk],hcut k (by simp[hk]),fun j hj=>hcut j (hcl k o hk j hj)⟩)
  (fun k hk=>by simp[Gh.cut,hk]) (fun k k' b r r' _ _ _ _ h=>h)
 refine⟨hinv,⟨hs.le.imm,fun k r hk=> ?_,hs.le.yl⟩,hs.size,hs.same,fun b hb=>hs.live b (hlive b hb),hs.immNew⟩
 obtain⟨o,ho⟩:=hi.reg_get hk
 rw[hcut k (by simp[ho])]
 exact hs.le.reg k r hk
def GdOk (ops:Array Oper)(g:Option (Nat×Bool))(i q:Nat)(tmps:Array Value):Prop :=
 match g with
 | none=>True
 | some (j,want)=>∃c,(ops[j]?).bind (·.dst)=some c/\tmps.getD c undef= .bool want/\∀r,i<=r->r<q->(ops[r]?).bind (·.dst)≠some c
theorem zko {j c:Nat}{tmps:Array Value}{b:Bool}(h:(ops[j]?).bind (·.dst)=some c)(hc:tmps.getD c undef= .bool b):yielded ops tmps j=some b:=by
 have hlt:c<tmps.size:=by
  rcases wT c tmps.size with h'|h'
  . exact h'
  . rw[wB,wD h']at hc;cases hc
 have:tmps[c]? =some (.bool b):=by rw[wB]at hc;simp[hlt]at hc ⊢;exact hc
 simp only[yielded,h,w0,this]
theorem zo7 {j c:Nat}{tmps:Array Value}(h:(ops[j]?).bind (·.dst)=some c)(hc:tmps.getD c undef=undef):yielded ops tmps j=none:=by
 simp only[yielded,h,w0]
 cases hx:tmps[c]? with
 | none=>rfl
 | some x =>
   rw[wB,hx]at hc
   simp only[Option.getD_some]at hc
   subst hc;rfl
theorem zmw {g:Option (Nat×Bool)}{i q:Nat}{tmps:Array Value}{o:Oper}(h:GdOk ops g i q tmps)(hg:o.guard=g):Region.wanted o (yielded ops tmps)=true:=by
 subst hg
 unfold Region.wanted
 cases hg:o.guard with
 | none=>rfl
 | some p =>
   obtain⟨j,want⟩:=p
   rw[hg]at h
   obtain⟨c,hc,hv,_⟩:=h
   simp only[zko hc hv]
   simp
theorem zw1 {g:Option (Nat×Bool)}{i q:Nat}{a:Act}{o:Oper}{v:Value}(h:GdOk ops g i q a.tmps)(ho:ops[i]? =some o)(hlt:i<q)(hd:∀d,o.dst=some d->d<a.tmps.size) :
  GdOk ops g (i+1) q (a.put o.dst v).tmps:=by
 cases g with
 | none=>trivial
 | some p =>
   obtain⟨j,want⟩:=p
   obtain⟨c,hc,hv,hr⟩:=h
   refine⟨c,hc,?_,fun r h1 h2=>hr r (by omega) h2⟩
   rw[zgh a o.dst v hd,if_neg]
   . exact hv
   . have:=hr i (wP _) hlt
     rw[ho]at this;exact this
theorem zhp (a:Act)(d:Option Tmp)(v:Value):(a.put d v).defers=a.defers:=by cases d<;>rfl
theorem qbw (hF:∀f,F.fn f){i q k c lo hi:Nat}{want t:Bool}(hb:z5c P im ops i q k c lo hi want=true)(hk:(ops[k]?).bind (·.dst)=some c)(ht:t≠want)(hq:q<=ops.size)
  (Q:Exit->Act->World->Prop) (w:World) :
  ∀(cnt r:Nat) (a:Act),q=r+cnt->i<=r->(∀(i:Nat) (o:Oper),ops[i]? =some o->∀d,o.dst=some d->d<a.tmps.size)->a.tmps.getD c undef= .bool t ->
   (∀r',i<=r'->r'<r->∀d,(ops[r']?).bind (·.dst)=some d->a.tmps.getD d undef=undef) ->
   (∀a',(∀x,(∀r',i<=r'->r'<q->(ops[r']?).bind (·.dst)≠some x)->a'.tmps.getD x undef=a.tmps.getD x undef)->a'.tmps.getD c undef= .bool t->a'.tmps.size=a.tmps.size->a'.defers=a.defers->wpOpsIn F n P ops Q (zf2 ops q) a' w) ->
   wpOpsIn F n P ops Q (zf2 ops r) a w:=by
 intro cnt
 induction cnt with
 | zero =>
   intro r a hqr _ _ hc _ hK
   obtain rfl:r=q:=by omega
   exact hK a (fun _ _=>rfl) hc rfl rfl
 | succ cnt ih =>
   intro r a hqr hir hdst hc hun hK
   obtain⟨o,d,ho,hd,h1,h2,h3,_,j,wt,hg,hgd⟩:=zkk hb r hir (by omega)
   have hlt:r<ops.size:=by omega
   have hnw:Region.wanted o (yielded ops a.tmps)=false:=by
    simp only[Region.wanted,hg]
    rcases hgd with ⟨rfl,rfl⟩|⟨hj1,hj2⟩
    . rw[zko hk hc]
      simpa using ht
    . obtain⟨o',d',ho',hd',_⟩:=zkk hb j hj1 (by omega)
      have hb':(ops[j]?).bind (·.dst)=some d':=by rw[ho'];exact hd'
      rw[zo7 hb' (hun j hj1 hj2 d' hb')]
      rfl
   rw[zf1 hlt,wpOpsIn_cons,wpOpIn]
   simp only[ho,hnw,Bool.false_eq_true,if_false]
   have hput:∀x,(a.put o.dst undef).tmps.getD x undef=if o.dst=some x then undef else a.tmps.getD x undef:=fun x=>zgh a o.dst undef (fun y hy=>hdst r o ho y hy) x
   refine⟨fun f _=>hF f,ih (r+1) (a.put o.dst undef) (by omega) (by omega) (fun i o' ho' d hd=>by rw[zcn];exact hdst i o' ho' d hd) ?_ (fun r' hr1 hr2 d' hd'=> ?_) (fun a' g1 g2 g3 g4=> ?_)⟩
   . rw[hput c,if_neg]
     . exact hc
     . rw[hd];intro e;cases e;exact h3 rfl
   . rw[hput d']
     split
     . rfl
     . by_cases hrr:r'=r
       . subst hrr
         rename_i hne
         rw[ho]at hd'
         exact absurd hd' hne
       . exact hun r' hr1 (by omega) d' hd'
   . refine hK a' (fun x hx=> ?_) g2 (g3.trans (zcn _ _ _)) (g4.trans (zhp _ _ _))
     rw[g1 x hx,hput x,if_neg]
     have:=hx r hir (by omega)
     rw[ho]at this;exact this
theorem qib (hOp:OpOk F n P gl cl)(hF:∀f,F.fn f){Q:Exit->Act->World->Prop}:∀(fuel:Nat) (g:Option (Nat×Bool)) (lo i:Nat) (its:Its) (q:Nat),
  zch P im ops fuel g lo i=some (its,q)->∀(a:Act) (w:World) (G:Gh) (st st':St),(∀(i:Nat) (o:Oper),ops[i]? =some o->∀d,o.dst=some d->d<a.tmps.size) ->
   GdOk ops g i q a.tmps->GlOk w.heap G gl->StOk w.heap G st a.tmps->zbz gl cl its st=some st' ->
   (∀a' w' G',Kept w w'->Step w.heap G st.hp w'.heap G' st'.hp->StOk w'.heap G' st' a'.tmps->a'.tmps.size=a.tmps.size->a'.defers=a.defers->(∀x,(∀r,i<=r->r<q->(ops[r]?).bind (·.dst)≠some x)->a'.tmps.getD x undef=a.tmps.getD x undef) ->
     wpOpsIn F n P ops Q (zf2 ops q) a' w') ->
   wpOpsIn F n P ops Q (zf2 ops i) a w:=by
 intro fuel
 induction fuel with
 | zero=>intro g lo i its q h;simp[zch]at h
 | succ fuel ih =>
   intro g lo i its q h a w G st st' hdst hgd hg hst hev hK
   rcases zjo h with ⟨rfl,rfl⟩|⟨o,m,rest,ho,hog,hm,hrest,rfl⟩|⟨o,j,want,blk,q1,o1,c,d,l,hh,x,y,x',y',rest,ho,hI⟩
   . simp only[zbz,wY]at hev
     subst hev
     exact hK a w G (Kept.refl w) (Step.refl hst.inv) hst rfl rfl fun _ _=>rfl
   . have hlt:i<ops.size:=(wC.1 ho).1
     have hge:=zdf hrest
     simp only[zbz,wX]at hev
     obtain⟨⟨v,us⟩,hr,hev⟩:=hev
     rw[zf1 hlt,wpOpsIn_cons,wpOpIn]
     simp only[ho,zmw hgd hog,if_true]
     refine hOp o m a w G st v us hg hst hm hr _ _ fun v' w' G' hk hs hv=> ?_
     have hdo:∀d,o.dst=some d->d<a.tmps.size:=fun d hd=>hdst i o ho d hd
     refine ih g lo (i+1) rest q hrest (a.put o.dst v') w' G' _ st' (fun i o' ho' d hd=>by rw[zcn];exact hdst i o' ho' d hd) (zw1 hgd ho (by omega) hdo) (hg.mono hs.le) (zga hst hdo hs hv) hev ?_
     intro a' w'' G'' h1 h2 h3 h4 h5 h6
     refine hK a' w'' G'' (hk.trans h1) (hs.trans h2) h3 (h4.trans (zcn _ _ _)) (h5.trans (zhp _ _ _)) fun x hx=> ?_
     rw[h6 x fun r a b=>hx r (by omega) b,zgh a o.dst v' hdo,if_neg]
     have:=hx i (wP _) (by omega)
     rw[ho]at this;exact this
   . have hge:=zdf hI.more
     have hgt:=zou ho hI.guard hI.inner
     have hq1:q1<ops.size:=(wC.1 hI.at1).1
     have hblk:=zkk hI.chk
     have hout:∀r,i<=r->r<q1->∀x,(ops[r]?).bind (·.dst)=some x->l<=x/\x<hh+1/\x≠c:=fun r h1 h2 x hx=>by
      obtain⟨o',d',ho',hd',e1,e2,e3,_⟩:=hblk r h1 h2
      rw[ho']at hx
      simp only[w0,hd',wY]at hx
      subst hx;exact⟨e1,e2,e3⟩
     rw[hI.eq]at hev
     simp only[zbz]at hev
     split at hev
     . rename_i t ht
       have hct:a.tmps.getD c undef= .bool t:=by
        have:=hst.fr c
        rw[ht]at this
        exact zb7 this
       simp only[wX]at hev
       obtain⟨z,hz,hev⟩:=hev
       have tail:∀(a1:Act) (w1:World) (G1:Gh) (xo:Operand),Kept w w1->Step w.heap G st.hp w1.heap G1 st.hp->a1.tmps.size=a.tmps.size->a1.defers=a.defers->a1.tmps.getD c undef= .bool t ->
         (∀x,¬(l<=x/\x<hh+1)->RepT w1.heap G1 (a1.tmps.getD x undef) (st.fr.get x))->xo=(if t then x else y)->RepT w1.heap G1 (a1.eval xo) z ->
         (∀x,(∀r,i<=r->r<q1->(ops[r]?).bind (·.dst)≠some x)->a1.tmps.getD x undef=a.tmps.getD x undef)->wpOpsIn F n P ops Q (zf2 ops q1) a1 w1:=by
        intro a1 w1 G1 xo hk hs hsz hdf hc1 hfr hxo hrep hkeep
        have hgd1:GdOk ops g q1 q a1.tmps:=by
         cases g with
         | none=>trivial
         | some p =>
           obtain⟨j',want'⟩:=p
           obtain⟨c',hc',hv',hr'⟩:=hgd
           exact⟨c',hc',by rw[hkeep c' fun r h1 h2=>hr' r h1 (by omega)];exact hv',fun r h1 h2=>hr' r (by omega) h2⟩
        have hdo1:∀e,o1.dst=some e->e<a1.tmps.size:=fun e he=>by rw[hsz];exact hdst q1 o1 hI.at1 e he
        rw[zf1 hq1,wpOpsIn_cons,wpOpIn]
        simp only[hI.at1,zmw hgd1 hI.guard1,if_true]
        have hrun:(execOp a1.eval o1).run P w1= .ok (.value (a1.eval xo)) w1:=by
         have hce:a1.eval (.tmp c)= .bool t:=by rw[<-hc1];rfl
         have hop:=hI.op1
         subst hxo
         unfold execOp
         simp only[hop,hce]
         cases t<;>simp[asBool]
        unfold Oper.wpIn
        refine⟨fun f _=>hF f,?_⟩
        rw[Oper.semAt_eq _ _ _ (by rw[hI.op1];intro c h;cases h),hrun,Oper.uponIn_value]
        refine ih g lo (q1+1) rest q hI.more (a1.put o1.dst (a1.eval xo)) w1 G1 _ st' (fun i o' ho' d hd=>by rw[zcn,hsz];exact hdst i o' ho' d hd) (zw1 hgd1 hI.at1 (by omega) hdo1) (hg.mono hs.le) ?_ hev ?_
        . refine⟨hs.inv,fun e=> ?_⟩
          rw[zgh a1 o1.dst _ hdo1,z4z,hI.dst1]
          simp only[wY]
          by_cases h1:d=e
          . simp only[h1,if_true];exact hrep
          . simp only[h1,if_false]
            by_cases h2:l<=e/\e<hh+1
            . simp only[h2,and_self,if_true];trivial
            . rw[if_neg h2];exact hfr e h2
        . intro a' w'' G'' g1 g2 g3 g4 g5 g6
          refine hK a' w'' G'' (hk.trans g1) (hs.trans g2) g3 (g4.trans ((zcn _ _ _).trans hsz)) (g5.trans ((zhp _ _ _).trans hdf)) fun x hx=> ?_
          rw[g6 x fun r a b=>hx r (by omega) b,zgh a1 o1.dst _ hdo1,if_neg]
          . exact hkeep x fun r a b=>hx r a (by omega)
          . have:=hx q1 (by omega) (by omega)
            rw[hI.at1]at this;exact this
       by_cases htw:t=want
       . rw[if_pos htw]at hz
         subst htw
         rw[wX]at hz
         obtain⟨st1,hb1,hz⟩:=hz
         rw[w2]at hz
         obtain⟨hpl,hz⟩:=hz
         . simp only[wY]at hz
           subst hz
           refine ih (some (j,t)) i i blk q1 hI.inner a w G st st1 hdst ⟨c,hI.test,hct,fun r h1 h2 e=>(hout r h1 h2 c e).2.2 rfl⟩ hg hst hb1 ?_
           intro a1 w1 G1 g1 g2 g3 g4 g5 g6
           have hw:=zfm (lo':=l) (hi':=hh+1) hI.inner fun r h1 h2=>by
            obtain⟨o',d',ho',hd',e1,e2,_,e4,_⟩:=hblk r h1 h2
            exact⟨o',d',ho',hd',e1,e2,e4⟩
           obtain⟨hold,hfr⟩:=zhe hw hb1
           have hcl:=hst.closed
           have hs':=z81 hst.inv hcl.all g2 hold
           have hcut:∀{v:Value} {b:AV},RepT w1.heap G1 v b->(∀k∈b.refs,st.hp.get k≠none)->RepT w1.heap (G1.cut st.hp) v b:=fun hr hk=>by
            refine hr.cut (fun b h=>h) (fun i l h=>h) fun k hk'=> ?_
            cases hx:st.hp.get k with
            | none=>exact absurd hx (hk k hk')
            | some o=>simp[Gh.cut,hx]
           refine tail a1 w1 (G1.cut st.hp) (if t then x else y) g1 hs' g4 g5 ?_ (fun e he=> ?_) rfl ?_ g6
           . rw[g6 c fun r h1 h2 e=>(hout r h1 h2 c e).2.2 rfl];exact hct
           . have:=g3.fr e
             rw[hfr e he]at this
             exact hcut this fun k hk=>hcl.fr e k hk
           . have:RepT w1.heap G1 (a1.eval (if t then x else y)) ((if t then x' else y').val gl st1.fr):=by
              cases t
              . exact zam (hg.mono g2.le) g3 hI.opy
              . exact zam (hg.mono g2.le) g3 hI.opx
             exact hcut this fun k hk=>by rw[AV.plain_refs hpl]at hk;cases hk
       . rw[if_neg htw]at hz
         simp only[wY]at hz
         subst hz
         refine qbw hF hI.chk hI.test htw (by omega) Q w (q1-i) i a (by omega) (wP _) hdst hct (fun r' h1 h2=>by omega) ?_
         intro a1 g1 g2 g3 g4
         have hno:∀e,¬(l<=e/\e<hh+1)->∀r,i<=r->r<q1->(ops[r]?).bind (·.dst)≠some e:=fun e he r h1 h2 h3 =>
          he ⟨(hout r h1 h2 e h3).1,(hout r h1 h2 e h3).2.1⟩
         refine tail a1 w G (if t then x else y) (Kept.refl w) (Step.refl hst.inv) g3 g4 g2 (fun e he=>by rw[g1 e (hno e he)];exact hst.fr e) rfl ?_ g1
         . have hsel:(if t then x else y)=(if want then y else x):=by cases t<;>cases want<;>first|rfl|exact absurd rfl htw
           rw[hsel]
           have hcomp:zag (if want then y else x)=some (if want then y' else x'):=by cases want<;>first|exact hI.opx|exact hI.opy
           have hr:=zam hg hst hcomp
           have hsame:a1.eval (if want then y else x)=a.eval (if want then y else x):=by
            generalize (if want then y else x)=xo at hcomp ⊢
            cases xo with
            | tmp e =>
              simp only[zag,wY]at hcomp
              have ho:=hI.out
              rw[<-hcomp]at ho
              simp only[Opd.out,Bool.not_eq_true',Bool.and_eq_false_iff,decide_eq_false_iff_not]at ho
              exact g1 e (hno e (by omega))
            | _=>rfl
           rw[hsame];exact hr
     . cases hev
theorem z31 (hOp:OpOk F n P gl cl)(hF:∀f,F.fn f){Q:Exit->Act->World->Prop}:∀(fos:List FO) (i:Nat) (a:Act) (w:World) (G:Gh) (st st':St) (ks:List (List Nat)),
  (∀j (h:j<fos.length),∃o,ops[i+j]? =some o/\zf6 P im ops o=some fos[j])->i+fos.length=ops.size->(∀(i:Nat) (o:Oper),ops[i]? =some o->∀d,o.dst=some d->d<a.tmps.size) ->
    GlOk w.heap G gl->StOk w.heap G st a.tmps->zb0 gl cl fos st=some (st',ks) ->
    (∀a' w' G',Kept w w'->Step w.heap G st.hp w'.heap G' st'.hp->StOk w'.heap G' st' a'.tmps->a'.tmps.size=a.tmps.size->a'.defers=a.defers->Q .normal a' w') ->
    wpOpsIn F n P ops Q (zf2 ops i) a w
 | [],i,a,w,G,st,st',ks,_,hl,_,_,hst,hev,hK=>by
   simp only[zb0,wY,Prod.mk.injEq]at hev
   obtain⟨rfl,_⟩:=hev
   rw[zql (by simp at hl;omega)]
   exact hK a w G (Kept.refl w) (Step.refl hst.inv) hst rfl rfl
 | f::fos,i,a,w,G,st,st',ks,hfo,hl,hd,hg,hst,hev,hK=>by
   obtain⟨o,ho,hc⟩:=hfo 0 (by simp)
   rw[wU]at ho
   have hlt:i<ops.size:=(wC.1 ho).1
   rw[zgm]at hev
   simp only[wX,wZ,Prod.mk.injEq]at hev
   obtain⟨t,ht,⟨st2,ks2⟩,hev,h1,h2⟩:=hev
   simp only at h1
   subst h1
   rw[zf1 hlt,wpOpsIn_cons]
   refine qd3 hOp hF ho hc (fun d hdd=>hd i o ho d hdd) hg hst ht fun a' w' G' hk hs hst' hsz hdf=> ?_
   refine z31 hOp hF fos (i+1) a' w' G' _ st2 ks2 (fun j hj=> ?_) (by simp only[wK]at hl;omega) (fun i o ho d hdd=>by rw[hsz];exact hd i o ho d hdd) (hg.mono hs.le) hst' hev ?_
   . obtain⟨o',h1,h2⟩:=hfo (j+1) (by simp;omega)
     refine⟨o',?_,by simpa using h2⟩
     rw[show i+1+j=i+(j+1) by omega];exact h1
   . intro a'' w'' G'' e1 e2 e3 e4 e5
     exact hK a'' w'' G'' (hk.trans e1) (hs.trans e2) e3 (e4.trans hsz) (e5.trans hdf)
end Go.Ev
