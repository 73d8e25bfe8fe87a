/-
  A region whose order is drawn: every order gives what the order of the text gives. No condition.
-/
import Derived.Test.YtaloneiaejhopaaGreatDoorEvRs
import Derived.OrdersIn
set_option linter.all false
open Array renaming getD_eq_getD_getElem?->wB,getElem?_eq_some_iff->wC,getElem?_eq_none->wD,foldl_toList->wE
open List renaming mem_singleton->wF,getElem_mem->wG,mem_cons->wH,all_eq_true->wJ,getElem?_eq_getElem->wK,mk_mem_zipIdx_iff_getElem?->wM,getElem?_cons_zero->wN,eq_nil_of_length_eq_zero->wO,getElem?_append_right->wP,nodup_append->wQ,getElem?_cons_succ->wR,nodup_cons->wS,map_append->wT,length_nil->wU,mem_append_right->wW,pairwise_cons->wX,append_assoc->wY,mem_append->wZ,getElem?_append_left->w0,all_cons->w2,take_append_drop->w3,singleton_append->w5,pairwise_append->w6,mem_cons_of_mem->w7,range->w8,mem_cons_self->w9,length_append->wa,getElem?_map->wb,length_take->wd,length_cons->we,nil_append->wg,length_map->wh,foldl_cons->wi,append_nil->wj,mem_range->wm,range'->wn
open Nat renaming le_refl->wo,lt_irrefl->wp,zero_add->wr,add_zero->wu,testBit_or->wv,lt_or_ge->ww
open Bool renaming and_eq_true->wx,or_eq_true->wy,not_eq_true'->WA,true_and->WD
open Option renaming bind_eq_some_iff->WF,some.injEq->WG,map_eq_some_iff->WH,ite_none_right_eq_some->WJ,bind_some->WK,getD_some->WL
open Prod renaming mk.injEq->WM
namespace Go.Ev
open Go
section
variable {im :Im} {gl:Gl} {cl:Cl} {P:Program} {F:Fence} {n N:Nat}
theorem m0 {hp hp':Hp}(h:∀k,hp.get k=hp'.get k){k:Nat}:aN hp k↔aN hp' k:=by unfold aN;rw[h k]
theorem s7 {G:Gh}{hp hp':Hp}(h:∀k,hp.get k=hp'.get k){b:Nat}:bG G hp b↔bG G hp' b:=by unfold bG;simp only[m0 h]
theorem Inv.ext {H:aT}{G:Gh}{hp hp':Hp}(h:∀k,hp.get k=hp'.get k)(i:Inv H G hp):Inv H G hp' where
 obs k o hk:=i.obs k o ((h k).trans hk)
 out k hk:=i.out k ((h k).trans hk)
 dist k k' b r r' h1 h2 h3 h4:=i.dist k k' b r r' h1 h2 ((m0 h).2 h3) ((m0 h).2 h4)
 imm b hb:=⟨(i.imm b hb).1,fun hl=>(i.imm b hb).2 ((s7 h).2 hl)⟩
 lt b hb:=i.lt b ((s7 h).2 hb)
theorem Step.ext {H H':aT}{G G':Gh}{hp hp' hp'':Hp}(h:∀k,hp'.get k=hp''.get k)(s:Step H G hp H' G' hp'):Step H G hp H' G' hp'' :=
 ⟨s.inv.ext h,s.le,s.size,s.same,fun b hb=>s.live b ((s7 h).2 hb),s.immNew⟩
theorem StOk.ext {H:aT}{G:Gh}{s t:St}{tmps:Array Value}(h:Eqv s t)(i:StOk H G s tmps):StOk H G t tmps :=
 ⟨i.inv.ext h.hp,fun j=>by rw[<-h.fr j];exact i.fr j⟩
def kn (o:Oper)(acc:Array Nat):Nat:=o.after.foldl (fun s e=>if Region.binds .any e then s|||2^e.on|||acc.getD e.on 0 else s) 0
theorem GV (ops:Array Oper):Region.before ops=ops.toList.foldl (fun acc o=>acc.push (kn o acc)) #[]:=by unfold Region.before kn;rw[<-wE]
theorem OO {l:List Oper}:∀{acc:Array Nat},(l.foldl (fun acc o=>acc.push (kn o acc)) acc).size=acc.size+l.length /\
  (∀i,i<acc.size->(l.foldl (fun acc o=>acc.push (kn o acc)) acc).getD i 0=acc.getD i 0) /\
  ∀k (hk:k<l.length),∃ac:Array Nat,ac.size=acc.size+k/\(∀i,i<acc.size+k->ac.getD i 0=(l.foldl (fun acc o=>acc.push (kn o acc)) acc).getD i 0) /\
   (l.foldl (fun acc o=>acc.push (kn o acc)) acc).getD (acc.size+k) 0=kn l[k] ac:=by
 induction l with
 | nil=>intro acc;exact⟨rfl,fun _ _=>rfl,fun k hk=>by simp at hk⟩
 | cons o l ih =>
   intro acc;obtain⟨h1,h2,h3⟩:=ih (acc:=acc.push (kn o acc));simp only[wi,we]at *
   have hp:∀i,i<acc.size->(acc.push (kn o acc)).getD i 0=acc.getD i 0:=fun i hi=>by simp only[wB];rw[Array.getElem?_push];simp[Nat.ne_of_lt hi]
   refine⟨by rw[h1];simp;omega,fun i hi=>by rw[h2 i (by simp;omega),hp i hi],fun k hk=> ?_⟩
   cases k with
   | zero =>refine⟨acc,rfl,fun i hi=>by rw[h2 i (by simp;omega),hp i (by omega)],?_⟩;rw[wu,h2 acc.size (by simp)];simp
   | succ k =>
     obtain⟨ac,g1,g2,g3⟩:=h3 k (by omega);refine⟨ac,by rw[g1];simp;omega,fun i hi=>g2 i (by simp;omega),?_⟩;have:(acc.push (kn o acc)).size+k=acc.size+(k+1):=by simp;omega
     rw[this]at g3;simpa using g3
theorem GW {o:Oper}{acc:Array Nat}{p:Nat}(h:(kn o acc).testBit p=true):∃e∈o.after,Region.binds .any e=true/\(p=e.on\/(acc.getD e.on 0).testBit p=true):=by
 unfold kn at h;rw[<-wE]at h;have key:∀(l:List Edge) (s:Nat),(l.foldl (fun s e=>if Region.binds .any e then s|||2^e.on|||acc.getD e.on 0 else s) s).testBit p=true ->
   s.testBit p=true\/∃e∈l,Region.binds .any e=true/\(p=e.on\/(acc.getD e.on 0).testBit p=true):=by
  intro l
  induction l with
  | nil=>intro s h;exact .inl h
  | cons e l ih =>
    intro s h;rw[wi]at h;rcases ih _ h with h|⟨e',he,hb⟩
    . by_cases hb:Region.binds .any e=true
      . rw[if_pos hb,wv,wv,wy,wy,Nat.testBit_two_pow,decide_eq_true_eq]at h;rcases h with (h|h)|h
        . exact .inl h
        . exact .inr ⟨e,by simp,hb,.inl h.symm⟩
        . exact .inr ⟨e,by simp,hb,.inr h⟩
      . rw[if_neg hb]at h;exact .inl h
    . exact .inr ⟨e',by simp[he],hb⟩
 rcases key _ _ h with h|⟨e,he,hb⟩
 . simp at h
 . exact⟨e,by simpa using he,hb⟩
theorem Dn {ops:Array Oper}{j p:Nat}(h:((Region.before ops).getD j 0).testBit p=true) :
  ∃o,ops[j]? =some o/\∃e∈o.after,Region.binds .any e=true/\(p=e.on\/(e.on<j/\((Region.before ops).getD e.on 0).testBit p=true)):=by
 rw[GV]at h ⊢;obtain⟨h1,_,h3⟩:=OO (l:=ops.toList) (acc:= #[]);by_cases hj:j<ops.size
 . obtain⟨ac,g1,g2,g3⟩:=h3 j (by simpa using hj);simp only[List.size_toArray,wU,wr]at g1 g2 g3;rw[g3]at h;obtain⟨e,he,hb,hp⟩:=GW h;refine⟨ops[j],by simp[hj],e,by simpa using he,hb,?_⟩;rcases hp with hp|hp
   . exact .inl hp
   . by_cases hlt:e.on<j
     . rw[g2 e.on hlt]at hp;exact .inr ⟨hlt,hp⟩
     . rw[wB,wD (by omega)]at hp;simp at hp
 . rw[wB,wD (by rw[h1];simp;omega)]at h;simp at h
def XF (ops:Array Oper)(listed:Array Bool):Prop :=
 ∀i,listed.getD i false=true->∀o,ops[i]? =some o->∀e∈o.after,Region.binds .any e=true->listed.getD e.on false=true
theorem u3 {ops:Array Oper}{listed:Array Bool}(hd:XF ops listed):∀(j p:Nat),(∀o,ops[j]? =some o->∀e∈o.after,Region.binds .any e=true->listed.getD e.on false=true) ->
  ((Region.before ops).getD j 0).testBit p=true->listed.getD p false=true:=by
 intro j
 induction j using Nat.strongRecOn with
 | _ j ih =>
   intro p hj h;obtain⟨o,ho,e,he,hb,hp⟩:=Dn h;rcases hp with rfl|⟨hlt,hp⟩
   . exact hj o ho e he hb
   . exact ih e.on hlt p (hd e.on (hj o ho e he hb)) hp
def LL (P:Program)(gl:Gl)(cl:Cl):Prop :=
 ∀{im:Im} (o:Oper) (m:MOp) (a:Act) (w:World) (G:Gh) (st:St) (v:AV) (us:Hp),GlOk w.heap G gl->StOk w.heap G st a.tmps->aF P im o=some m->af gl cl st o.dst m=some (v,us) ->
  ∃v' w' G',Kept w w'/\Step w.heap G st.hp w'.heap G' (us++st.hp)/\RepT w'.heap G' v' v
theorem zF {o:Oper}{a:Act}{w:World}{E:Prop}(h:o.wpIn Fence.wide n P a w (fun _ _=>E) (fun _ _ _=>False)):E:=by
 unfold Oper.wpIn at h;have hh:=h.2;generalize (o.semAt Fence.wide.round a.eval).run P w=r at hh;have hroom:∀k,Fence.wide.room k:=fun k=>room_wide k
 cases r with
 | ok x w' =>
   cases x with
   | value v=>exact hh
   | skip=>exact hh
   | defer d=>exact hh
   | enter f args =>
     obtain⟨e,w'',fr,hR,_⟩:=hh.2.2 [] (hroom _)
     cases e with
     | returned v=>exact hR
     | panicked c=>exact hR.elim
     | outgrown=>obtain⟨_,_,h⟩:=hR;exact h.elim
   | row row args =>obtain⟨v,w'',hR,_⟩:=hh.2 default [] (hroom _);exact hR
   | round l f tmps as body =>
     obtain⟨e,w'',hR,_⟩:=hh.2.2 default [] (hroom _)
     cases e with
     | returned v=>exact hR
     | panicked c=>exact hR.elim
     | outgrown=>obtain⟨_,_,h⟩:=hR;exact h.elim
   | _=>exact hh.elim
 | halt x w'=>cases x<;>exact hh.elim
theorem fy (h:zA Fence.wide n P gl cl):LL P gl cl:=fun o m a w G st v us hg hst hc hs =>
 zF (h o m a w G st v us hg hst hc hs (fun _ _=>_) (fun _ _ _=>False) fun v' w' G' h1 h2 h3=>⟨v',w',G',h1,h2,h3⟩)
def Ur (gl:Gl)(N:Nat)(st:St):Prop:=∃(w:World) (G:Gh) (a:Act),GlOk w.heap G gl/\StOk w.heap G st a.tmps/\a.tmps.size=N
variable {ops :Array Oper}
theorem eR {α β:Type}{f:α->Option β}:∀{l:List α} {r:List β},bw f l=some r->r.length=l.length/\∀i (h:i<l.length) (h':i<r.length),f l[i]=some r[i]
 | [],r,h=>by simp only[bw,WG]at h;subst h;exact⟨rfl,fun i h=>by simp at h⟩
 | a::l,r,h=>by
   simp only[bw,WF,WH]at h;obtain⟨b,hb,s,hs,rfl⟩:=h;obtain⟨h1,h2⟩:=eR hs;refine⟨by simp[h1],fun i hi hi'=> ?_⟩
   cases i with
   | zero=>exact hb
   | succ i=>exact h2 i (by simpa using hi) (by simpa using hi')
theorem lF {o:Oper}{f:FO}(h:gI P im ops o=some f):aF P im o=some f.m/\f.d=o.dst /\
  (o.guard=none/\f.g=none\/∃j want c,o.guard=some (j,want)/\(ops[j]?).bind (·.dst)=some c/\f.g=some (c,want)):=by
 simp only[gI,WF]at h;obtain⟨m,hm,h⟩:=h;split at h
 . rename_i hg;cases h;exact⟨hm,rfl,.inl ⟨hg,rfl⟩⟩
 . rename_i j want hg;simp only[WH]at h;obtain⟨c,hc,rfl⟩:=h;exact⟨hm,rfl,.inr ⟨j,want,c,hg,hc,rfl⟩⟩
theorem nJ {H:aT}{G:Gh}{st:St}{tmps:Array Value}{o:Oper}{f:FO}{b:Bool}(hst:StOk H G st tmps)(hc:gI P im ops o=some f)(h:f.wants st.fr=some b) :
  Region.wanted o (yielded ops tmps)=b:=by
 obtain⟨_,_,hg⟩:=lF hc;unfold FO.wants at h;rcases hg with ⟨h1,h2⟩|⟨j,want,c,h1,h2,h3⟩
 . rw[h2]at h;simp only[WG]at h;subst h;simp[Region.wanted,h1]
 . rw[h3]at h;simp only at h;have hrep:=hst.fr c;split at h
   . rename_i t ht;rw[ht]at hrep;have hv:=cA hrep;simp only[WG]at h;subst h
     have hlt:c<tmps.size:=by
      rcases ww c tmps.size with h'|h'
      . exact h'
      . rw[wB,wD h']at hv;cases hv
     have:tmps[c]? =some (.bool t):=by rw[wB]at hv;simp[hlt]at hv ⊢;exact hv
     simp only[Region.wanted,h1,yielded,h2,WK,this];cases t<;>cases want<;>rfl
   . rename_i ht;rw[ht]at hrep;obtain⟨vs,hv,hs,_⟩:=hrep;simp only[WG]at h;subst h
     have:(tmps[c]? =none)\/∃vs,tmps[c]? =some (.tuple vs):=by
      cases hx:tmps[c]? with
      | none=>exact .inl rfl
      | some x=>rw[wB,hx]at hv;exact .inr ⟨vs,by simpa using hv⟩
     simp only[Region.wanted,h1,yielded,h2,WK];rcases this with h|⟨vs',h⟩<;>rw[h]<;>rfl
   . cases h
theorem r8 {H:aT}{G:Gh}:RepT H G undef (.tup []):=⟨#[],rfl,rfl,fun i h=>by simp at h⟩
theorem Fe (hEx:LL P gl cl){o:Oper}{f:FO}{st:St}{t:Tr}(hc:gI P im ops o=some f)(hd:∀d,o.dst=some d->d<N)(hr:Ur gl N st)(h:foStep gl cl st f=some t) :
  Ur gl N (st.after f t):=by
 obtain⟨w,G,a,hg,hst,hN⟩:=hr;obtain⟨hm,hdst,_⟩:=lF hc;unfold foStep at h;split at h
 . cases h
 . simp only[WH]at h;obtain⟨r,hr,rfl⟩:=h;rw[hdst]at hr;obtain⟨v',w',G',_,hs,hv⟩:=hEx o f.m a w G st r.1 r.2 hg hst hm hr;refine⟨w',G',a.put o.dst v',hg.mono hs.le,?_,by rw[dk,hN]⟩;rw[St.after,hdst];exact hY hst (fun i hi=>by rw[hN];exact hd i hi) hs hv
 . cases h;refine⟨w,G,a.put o.dst undef,hg,?_,by rw[dk,hN]⟩;rw[St.after,hdst];exact hY hst (fun i hi=>by rw[hN];exact hd i hi) (Step.refl hst.inv) r8
theorem PO (hOp:zA F n P gl cl)(hF:∀f,F.fn f){j:Nat}{o:Oper}{f:FO}{a:Act}{w:World}{G:Gh}{st:St}{t:Tr}(hj:ops[j]? =some o)(hc:gI P im ops o=some f)
  (hd:∀d,o.dst=some d->d<a.tmps.size) (hg:GlOk w.heap G gl) (hst:StOk w.heap G st a.tmps) (h:foStep gl cl st f=some t) {K:Act->World->Prop} {Q:Exit->Act->World->Prop}
  (hK:∀a' w' G',Kept w w'->Step w.heap G st.hp w'.heap G' (st.after f t).hp->StOk w'.heap G' (st.after f t) a'.tmps->a'.tmps.size=a.tmps.size->a'.defers=a.defers->K a' w') :
  wpOpIn F n P ops Q j K a w:=by
 obtain⟨hm,hdst,_⟩:=lF hc;have hdef:∀v,(a.put o.dst v).defers=a.defers:=fun v=>by cases o.dst<;>rfl
 unfold foStep at h;unfold wpOpIn;simp only[hj];split at h
 . cases h
 . rename_i hw;rw[nJ hst hc hw,if_pos rfl];simp only[WH]at h;obtain⟨r,hr,rfl⟩:=h;rw[hdst]at hr;refine hOp o f.m a w G st r.1 r.2 hg hst hm hr K Q fun v' w' G' hk hs hv=>hK _ _ G' hk hs ?_ (dk _ _ _) (hdef _)
   rw[St.after,hdst];exact hY hst hd hs hv
 . rename_i hw;rw[nJ hst hc hw,if_neg (by simp)];cases h;refine⟨fun f _=>hF f,hK _ _ G (Kept.refl w) (Step.refl hst.inv) ?_ (dk _ _ _) (hdef _)⟩;rw[St.after,hdst];exact hY hst hd (Step.refl hst.inv) r8
structure DrawOk (P:Program)(ops:Array Oper)(fo:Nat->FO)(T:Nat->Tr)(N:Nat):Prop where
 comp:∀i o,ops[i]? =some o->gI P im ops o=some (fo i)
 dst:∀(i:Nat) (o:Oper),ops[i]? =some o->∀d,o.dst=some d->d<N
 edge:∀(i:Nat) (o:Oper),ops[i]? =some o->∀e∈o.after,Region.binds .any e=true->e.on<i
 cOk:∀i,i<ops.size->(fo i).m.cOk=true
 pair:∀i j,i<j->j<ops.size->((Region.before ops).getD j 0).testBit i=false->(fo i).apart (fo j)=true/\((fo i).clash (fo j)=true->Disj (T i).2.2 (T j).2.2)
theorem K4 (hOp:zA F n P gl cl)(hEx:LL P gl cl)(hF:∀f,F.fn f){fo:Nat->FO}{T:Nat->Tr}(hD:DrawOk (im:=im) P ops fo T N){Q:Exit->Act->World->Prop} :
  ∀(fuel:Nat) (listed:Array Bool) (l:List Nat) (a:Act) (w:World) (G:Gh) (st:St),listed.size=ops.size->l.length<=fuel->l.Pairwise (· < ·) ->
   (∀i,i∈l↔i<ops.size/\listed.getD i true=false)->XF ops listed->GlOk w.heap G gl->StOk w.heap G st a.tmps->a.tmps.size=N->OkRun gl cl fo T l st ->
   (∀a' w' G' st',Kept w w'->Step w.heap G st.hp w'.heap G' st'.hp->StOk w'.heap G' st' a'.tmps->a'.tmps.size=N->a'.defers=a.defers->Eqv (Aa fo T l st) st'->Q .normal a' w') ->
   wpAnyIn F n P .any ops Q fuel listed a w:=by
 have hready:∀(listed:Array Bool) (l:List Nat),listed.size=ops.size->l.Pairwise (· < ·)->(∀i,i∈l↔i<ops.size/\listed.getD i true=false)->Region.ready .any ops listed=[]->l=[]:=by
  intro listed l hsz hs hl h0
  cases l with
  | nil=>rfl
  | cons i l =>
    exfalso;obtain⟨hi,hun⟩:=(hl i).1 (by simp);have:i∈Region.ready .any ops listed:=by
     refine mem_ready.2 ⟨hun,ops[i],by simp[hi],fun e he hb=> ?_⟩;have hlt:=hD.edge i ops[i] (by simp[hi]) e he hb
     cases hx:listed.getD e.on true with
     | true =>
       have:e.on<listed.size:=by omega
       simp only[wB]at hx ⊢;simp[this]at hx ⊢;exact hx
     | false =>
       have hm:=(hl e.on).2 ⟨by omega,hx⟩;rcases wH.1 hm with h|h
       . omega
       . have:=(wX.1 hs).1 e.on h;omega
    rw[h0]at this;cases this
 intro fuel
 induction fuel with
 | zero =>intro listed l a w G st hsz hlen hs hl hdown hg hst hN hrun hpost;have h0:l=[]:=wO (by omega);subst h0;refine⟨?_,hpost a w G st (Kept.refl w) (Step.refl hst.inv) hst hN rfl (Eqv.refl _)⟩;apply List.eq_nil_iff_forall_not_mem.2;intro i hi;obtain⟨h1,o,ho,_⟩:=mem_ready.1 hi;have:=(hl i).2 ⟨(wC.1 ho).1,h1⟩;cases this
 | succ fuel ih =>
   intro listed l a w G st hsz hlen hs hl hdown hg hst hN hrun hpost;refine⟨fun h0=> ?_,fun j hj=> ?_⟩
   . have:=hready listed l hsz hs hl h0;subst this;exact hpost a w G st (Kept.refl w) (Step.refl hst.inv) hst hN rfl (Eqv.refl _)
   . obtain⟨hun,o,ho,hall⟩:=mem_ready.1 hj;have hjlt:j<ops.size:=(wC.1 ho).1;have hjl:j∈l:=(hl j).2 ⟨hjlt,hun⟩;obtain⟨pre,post,rfl⟩:=List.append_of_mem hjl;have hsplit:=w6.1 hs;have hpre:∀p∈pre,p<j:=fun p hp=>hsplit.2.2 p hp j (by simp)
     have hpreun:∀p∈pre,p<ops.size/\listed.getD p true=false:=fun p hp=>(hl p).1 (by simp[hp])
     have hfree:∀p∈pre,(fo p).m.cOk=true/\Apart (fo p) (fo j)/\((fo p).clash (fo j)=true->Disj (T p).2.2 (T j).2.2):=fun p hp=>by
      have hbit:((Region.before ops).getD j 0).testBit p=false:=by
       cases hb:((Region.before ops).getD j 0).testBit p with
       | false=>rfl
       | true =>
         exfalso;have:=u3 hdown j p (fun o' ho' e he hbd=>hall e (by rw[ho]at ho';cases ho';exact he) hbd) hb;have h2:=(hpreun p hp).2;have hlt:p<listed.size:=by rw[hsz];exact(hpreun p hp).1
         simp only[wB]at this h2;simp[hlt]at this h2;rw[this]at h2;cases h2
      obtain⟨h1,h2⟩:=hD.pair p j (hpre p hp) hjlt hbit;exact⟨hD.cOk p (hpreun p hp).1,FO.apart_spec h1,h2⟩
     obtain⟨⟨k1,k2⟩,k3⟩:=sL (S:=Ur gl N) (fun s ⟨w,G,tm,_,h,_⟩=>h.closed) (hD.cOk j hjlt) pre st
      (fun p hp s hr h=>have hlt:=(hpreun p hp).1;Fe hEx (hD.comp p ops[p] (by simp[hlt])) (hD.dst p ops[p] (by simp[hlt])) hr h) hfree ⟨w,G,a,hg,hst,hN⟩ hrun
     refine PO hOp hF ho (hD.comp j o ho) (fun d hd=>by rw[hN];exact hD.dst j o ho d hd) hg hst k1 fun a' w' G' hk' hs' hst' hsz' hdf'=> ?_
     refine ih (listed.setIfInBounds j true) (pre++post) a' w' G' _ (by simp[hsz]) (by simp at hlen ⊢;omega) ?_ (fun i=> ?_) (fun i hi o' ho' e he hb=> ?_) (hg.mono hs'.le) hst' (hsz'.trans hN) k2 ?_
     . exact w6.2 ⟨hsplit.1,(wX.1 hsplit.2.1).2,fun p hp q hq=>hsplit.2.2 p hp q (by simp[hq])⟩
     . by_cases hij:j=i
       . subst hij;have h1:j∉pre:=fun h=>wp _ (hpre j h)
         have h2:j∉post:=fun h=>wp _ ((wX.1 hsplit.2.1).1 j h)
         have:j<listed.size:=by omega
         simp[h1,h2,this]
       . have hne:¬i=j:=fun h=>hij h.symm
         rw[getD_set_ne true hij,<-hl i];simp[hne]
     . by_cases hij:j=i
       . subst hij;rw[ho]at ho';cases ho';exact getD_set_true (hall e he hb)
       . rw[getD_set_ne false hij]at hi;exact getD_set_true (hdown i hi o' ho' e he hb)
     . intro a'' w'' G'' st'' h1 h2 h3 h4 h5 h6;exact hpost a'' w'' G'' st'' (hk'.trans h1) (hs'.trans h2) h3 h4 (h5.trans hdf') (k3.trans h6)
theorem Bf {fos:List FO}(hfos:bw (gI P im ops) ops.toList=some fos)(hok:yR ops fos=true)(hdst:∀(i:Nat) (o:Oper),ops[i]? =some o->∀d,o.dst=some d->d<N)
  {fo:Nat->FO} {T:Nat->Tr} {trs:List Tr} (hfo:∀i (h:i<fos.length),fo i=fos[i]) (hT:∀i (h:i<trs.length),T i=trs[i]) (htl:trs.length=fos.length)
  (hprs:(q5 ops fos).all (fun p=>uX ((trs.map (·.2.2)).getD p.1 []) ((trs.map (·.2.2)).getD p.2 []))=true):DrawOk (im:=im) P ops fo T N:=by
 obtain⟨hl,hm⟩:=eR hfos;have hl':fos.length=ops.size:=by simpa using hl
 unfold yR at hok;simp only[wx]at hok;obtain⟨⟨he,hc⟩,hp⟩:=hok;refine⟨fun i o hi=> ?_,hdst,fun i o hi e hee hb=> ?_,fun i hi=> ?_,fun i j hij hj hbit=> ?_⟩
 . obtain⟨hlt,rfl⟩:=wC.1 hi;rw[hfo i (by omega)];exact hm i (by simpa using hlt) (by omega)
 . obtain⟨hlt,rfl⟩:=wC.1 hi;unfold EE at he;rw[wJ]at he;have h1:=he (ops[i],i) (by rw[wM];simp[hlt]);rw[wJ]at h1;have h2:=h1 e (by simpa using hee);simpa[hb]using h2
 . rw[wJ]at hc;rw[hfo i (by omega)];exact hc _ (wG _)
 . rw[wJ]at hp;have h1:=hp (fos[j],j) (by rw[wM];simp[hl',hj]);rw[wJ]at h1;have hmem:(fos[i],i)∈(fos.take j).zipIdx:=by rw[wM,List.getElem?_take];simp[hij,show i<fos.length by omega]
   have h2:=h1 (fos[i],i) hmem;simp only[hbit,Bool.false_or]at h2;rw[hfo i (by omega),hfo j (by omega)];refine⟨h2,fun hcl=> ?_⟩;rw[wJ]at hprs;have h3:=hprs (i,j) (by
    unfold q5;simp only[List.mem_flatMap,List.mem_filterMap];refine⟨(fos[j],j),by rw[wM];simp[hl',hj],(fos[i],i),hmem,?_⟩;simp only[hbit,hcl,Bool.not_false,Bool.and_self,if_true])
   rw[La]at h3;have e1:(trs.map (·.2.2)).getD i []=(T i).2.2:=by rw[hT i (by omega)];simp[show i<trs.length by omega]
   have e2:(trs.map (·.2.2)).getD j []=(T j).2.2:=by rw[hT j (by omega)];simp[show j<trs.length by omega]
   simp only[e1,e2]at h3;exact h3
theorem Om (hmix:P.follows .mixedOrders=true)(hOp:zA F n P gl cl)(hEx:LL P gl cl)(hF:∀f,F.fn f){id:Nat}{fos:List FO}{a:Act}{w:World}{G:Gh}{st st':St}
  (hfos:bw (gI P im ops) ops.toList=some fos) (hok:yR ops fos=true) (hdst:∀(i:Nat) (o:Oper),ops[i]? =some o->∀d,o.dst=some d->d<a.tmps.size)
  (hg:GlOk w.heap G gl) (hst:StOk w.heap G st a.tmps) {ks:List (List Nat)} (hev:cj gl cl fos st=some (st',ks))
  (hprs:(q5 ops fos).all (fun p=>uX (ks.getD p.1 []) (ks.getD p.2 []))=true) {Q:Exit->Act->World->Prop}
  (hQ:∀a' w' G',Kept w w'->Step w.heap G st.hp w'.heap G' st'.hp->StOk w'.heap G' st' a'.tmps->a'.tmps.size=a.tmps.size->a'.defers=a.defers->Q .normal a' w') :
  (Code.region id ops true).wpIn F n P Q a w:=by
 obtain⟨trs,h1,rfl,h3⟩:=tR fos st st' ks 0 hev;obtain⟨hl,_⟩:=eR hfos;have hl':fos.length=ops.size:=by simpa using hl
 let fo:Nat->FO:=fun i=>fos.getD i default
 let T:Nat->Tr:=fun i=>trs.getD i (.unk,[],[])
 have hfo:∀i (h:i<fos.length),fo i=fos[i]:=fun i h=>by simp[fo,h]
 have hT:∀i (h:i<trs.length),T i=trs[i]:=fun i h=>by simp[T,h]
 obtain⟨k1,k2⟩:=h3 fo T (fun i h=>by rw[wr];exact hfo i h) (fun i h=>by rw[wr];exact hT i h);have hD:=Bf hfos hok hdst hfo hT h1 hprs;have hrange:wn 0 fos.length=w8 ops.size:=by rw[hl',List.range_eq_range']
 rw[hrange]at k1 k2;refine wpIn_region_any hmix (K4 hOp hEx hF hD ops.size _ (w8 ops.size) a {w with drawn:=w.drawn+1} G st (by simp) (by simp) List.pairwise_lt_range (fun i=> ?_) (fun i hi=> ?_) hg hst rfl k1 ?_)
 . rw[wm];constructor
   . intro h;exact⟨h,by simp[wB,h]⟩
   . exact fun h=>h.1
 . exfalso;simp only[wB]at hi;by_cases h:i<ops.size<;>simp[h]at hi
 . intro a' w' G' s2 g1 g2 g3 g4 g5 g6;rw[k2]at g6;exact hQ a' w' G' g1 (g2.ext fun k=>(g6.hp k).symm) (g3.ext g6.symm) g4 g5
end
section
variable {im :Im} {gl:Gl} {cl:Cl} {P:Program} {F:Fence} {n:Nat} {ops:Array Oper}
def ix (ops:Array Oper)(i:Nat):List Nat:=wn i (ops.size-i)
theorem l9 {i:Nat}(h:i<ops.size):ix ops i=i::ix ops (i+1):=by unfold ix;obtain⟨k,hk⟩:∃k,ops.size-i=k+1:=⟨ops.size-i-1,by omega⟩;rw[hk,List.range'_succ,show ops.size-(i+1)=k by omega]
theorem AW {i:Nat}(h:ops.size<=i):ix ops i=[]:=by unfold ix;rw[show ops.size-i=0 by omega];rfl
theorem eC :∀{fuel:Nat} {g:Option (Nat×Bool)} {lo i:Nat} {its:Its} {q:Nat},cG P im ops fuel g lo i=some (its,q)->i<=q
 | 0,_,_,_,_,_,h=>by simp[cG]at h
 | fuel+1,g,lo,i,its,q,h=>by
   rw[cG]at h;split at h
   . cases h;exact wo _
   . split at h
     . simp only[WF,WH]at h;obtain⟨m,_,z,hz,h⟩:=h;cases h;exact Nat.le_of_succ_le (eC (its:=z.1) (q:=z.2) hz)
     . split at h
       . cases h;exact wo _
       . split at h
         . simp only[WF]at h;obtain⟨z,hz,h⟩:=h;have h1:=eC (its:=z.1) (q:=z.2) hz;split at h
           . split at h
             . simp only[WF]at h;obtain⟨x,_,y,_,h⟩:=h;split at h
               . rw[WJ,WH]at h;obtain⟨_,v,hv,h⟩:=h;cases h;have h2:=eC (its:=v.1) (q:=v.2) hv;omega
               . cases h
             . cases h
           . cases h
         . cases h;exact wo _
theorem ue {fuel:Nat}{g:Option (Nat×Bool)}{lo i:Nat}{its:Its}{q:Nat}{o:Oper}(ho:ops[i]? =some o)(hg:o.guard=g)(h:cG P im ops fuel g lo i=some (its,q)):i<q:=by
 cases fuel with
 | zero=>simp[cG]at h
 | succ fuel =>rw[cG,ho]at h;simp only[hg,if_true,WF,WH]at h;obtain⟨m,_,z,hz,h⟩:=h;cases h;exact eC (its:=z.1) (q:=z.2) hz
structure IteAt (P:Program)(ops:Array Oper)(fuel:Nat)(g:Option (Nat×Bool))(lo i:Nat)(its:Its)(q:Nat)(o:Oper)(j:Nat)(want:Bool)(blk:Its)(q1:Nat)(o1:Oper)(c d l h:Nat)
  (x y:Operand) (x' y':Opd) (rest:Its):Prop where
 guard:o.guard=some (j,want)
 ne:o.guard≠g
 inner:cG P im ops fuel (some (j,want)) i i=some (blk,q1)
 at1:ops[q1]? =some o1
 dst1:o1.dst=some d
 op1:o1.op= .pick (.tmp c) x y
 guard1:o1.guard=g
 test:(ops[j]?).bind (·.dst)=some c
 opx:aw x=some x'
 opy:aw y=some y'
 first:(ops[i]?).bind (·.dst)=some l
 last:(ops[q1-1]?).bind (·.dst)=some h
 chk:Bu P im ops i q1 j c l (h+1) want=true
 out:(if want then y' else x').out l (h+1)=true
 more:cG P im ops fuel g lo (q1+1)=some (rest,q)
 eq:its= .ite c want blk l (h+1) d x' y' rest
theorem mN {fuel:Nat}{g:Option (Nat×Bool)}{lo i:Nat}{its:Its}{q:Nat}(h:cG P im ops (fuel+1) g lo i=some (its,q)) :
  (its= .nil/\q=i) \/
  (∃o m rest,ops[i]? =some o/\o.guard=g/\aF P im o=some m/\cG P im ops fuel g lo (i+1)=some (rest,q)/\its= .op o.dst m rest) \/
  (∃o j want blk q1 o1 c d l hh x y x' y' rest,ops[i]? =some o/\IteAt (im:=im) P ops fuel g lo i its q o j want blk q1 o1 c d l hh x y x' y' rest):=by
 rw[cG]at h;split at h
 . cases h;exact .inl ⟨rfl,rfl⟩
 . rename_i o ho;split at h
   . rename_i hg;simp only[WF,WH]at h;obtain⟨m,hm,z,hz,h⟩:=h;cases h;exact .inr (.inl ⟨o,m,z.1,ho,hg,hm,hz,rfl⟩)
   . rename_i hg;split at h
     . cases h;exact .inl ⟨rfl,rfl⟩
     . rename_i j want hgd;split at h
       . simp only[WF]at h;obtain⟨z,hz,h⟩:=h;split at h
         . rename_i d c x y g' _ _ _ hq;split at h
           . rename_i hc;simp only[WF]at h;obtain⟨x',hx,y',hy,h⟩:=h;split at h
             . rename_i l hh hl hlast;rw[WJ,WH,wx]at h;obtain⟨hb,v,hv,h⟩:=h;cases h;exact .inr (.inr ⟨o,j,want,z.1,z.2,_,c,d,l,hh,x,y,x',y',v.1,ho,⟨hgd,hg,hz,hq,rfl,rfl,hc.1,WF.2 hc.2,hx,hy,hl,hlast,hb.1,hb.2,hv,rfl⟩⟩)
             . cases h
           . cases h
         . cases h
       . cases h;exact .inl ⟨rfl,rfl⟩
theorem nw {i q k c lo hi:Nat}{want:Bool}(h:Bu P im ops i q k c lo hi want=true):∀r,i<=r->r<q->∃o d,ops[r]? =some o/\o.dst=some d/\lo<=d/\d<hi/\d≠c /\
  (∀m,aF P im o=some m->bE m=false)/\∃j w,o.guard=some (j,w)/\(j=k/\w=want\/i<=j/\j<r):=by
 intro r h1 h2;unfold Bu at h;rw[wJ]at h;have h:=h r (wm.2 h2);simp only[wy,decide_eq_true_eq,show ¬r<i by omega,false_or]at h;split at h
 . rename_i o ho;simp only[wx]at h;obtain⟨⟨hd,hm⟩,hg⟩:=h;split at hd
   . rename_i d hdst;simp only[wx,decide_eq_true_eq,bne_iff_ne,ne_eq]at hd;split at hg
     . rename_i j w hgd;refine⟨o,d,ho,hdst,hd.1.1,hd.1.2,hd.2,fun m hm'=> ?_,j,w,hgd,?_⟩
       . rw[hm']at hm;simpa using hm
       . simpa using hg
     . cases hg
   . cases hd
 . cases h
def Its.within (lo hi:Nat):Its->Prop
 | .nil=>True
 | .op d m rest=>(∃x,d=some x/\lo<=x/\x<hi)/\bE m=false/\rest.within lo hi
 | .ite _ _ _ l h d _ _ rest=>(lo<=l/\h<=hi)/\(lo<=d/\d<hi)/\rest.within lo hi
theorem iA {lo' hi':Nat}:∀{fuel:Nat} {g:Option (Nat×Bool)} {lo i:Nat} {its:Its} {q:Nat},cG P im ops fuel g lo i=some (its,q) ->
  (∀r,i<=r->r<q->∃o d,ops[r]? =some o/\o.dst=some d/\lo'<=d/\d<hi'/\(∀m,aF P im o=some m->bE m=false))->its.within lo' hi'
 | 0,_,_,_,_,_,h,_=>by simp[cG]at h
 | fuel+1,g,lo,i,its,q,h,hr=>by
   rcases mN h with ⟨rfl,_⟩|⟨o,m,rest,ho,hg,hm,hrest,rfl⟩|⟨o,j,want,blk,q1,o1,c,d,l,hh,x,y,x',y',rest,ho,hI⟩
   . trivial
   . have hge:=eC hrest;obtain⟨o',d,ho',hd,h1,h2,h3⟩:=hr i (wo _) (by omega);rw[ho]at ho';cases ho';exact⟨⟨d,hd,h1,h2⟩,h3 m hm,iA hrest fun r a b=>hr r (by omega) b⟩
   . have hge:=eC hI.more;have hgt:=ue ho hI.guard hI.inner;rw[hI.eq];have hdst:∀r d,i<=r->r<q->(ops[r]?).bind (·.dst)=some d->lo'<=d/\d<hi':=fun r d a b hd=>by obtain⟨o',d',ho',hd',h1,h2,_⟩:=hr r a b;rw[ho']at hd;simp only[WK,hd',WG]at hd;subst hd;exact⟨h1,h2⟩
     have e1:=hdst i l (wo _) (by omega) hI.first;have e2:=hdst (q1-1) hh (by omega) (by omega) hI.last;have e3:=hdst q1 d (by omega) (by omega) (by rw[hI.at1];exact hI.dst1);exact⟨⟨e1.1,e2.2⟩,e3,iA hI.more fun r a b=>hr r (by omega) b⟩
theorem EK (fr:Fr)(lo hi d:Nat)(x:AV)(i:Nat):Fr.get (.set d x::.clr lo hi::fr) i=if d=i then x else if lo<=i/\i<hi then .unk else fr.get i:=rfl
theorem jY {lo hi:Nat}:∀{its:Its} {st st':St},its.within lo hi->bA gl cl its st=some st' ->
  (∀k,st.hp.get k≠none->st'.hp.get k=st.hp.get k)/\∀i,¬(lo<=i/\i<hi)->st'.fr.get i=st.fr.get i
 | .nil,st,st',_,h=>by simp only[bA,WG]at h;subst h;exact⟨fun _ _=>rfl,fun _ _=>rfl⟩
 | .op d m rest,st,st',hw,h=>by
   simp only[bA,WF]at h;obtain⟨⟨v,us⟩,hr,h⟩:=h;obtain⟨⟨x,rfl,hx⟩,hm,hw⟩:=hw;obtain⟨h1,h2⟩:=jY hw h;have hold:∀k,st.hp.get k≠none->(us++st.hp).get k=st.hp.get k:=fun k hk=>by
    rw[Hp.get_append,Hp.get_none fun b hb=> ?_];rcases qa hr k b hb with h|⟨h,_⟩
    . exact hk h
    . rw[hm]at h;cases h
   refine⟨fun k hk=> ?_,fun i hi'=> ?_⟩
   . rw[h1 k (by show(us++st.hp).get k≠none;rw[hold k hk];exact hk)];exact hold k hk
   . rw[h2 i hi',St.upd,xB,if_neg];intro e;cases e;exact hi' hx
 | .ite c want blk l hh d a b rest,st,st',hw,h=>by
   obtain⟨hl,hd,hw⟩:=hw;simp only[bA]at h;split at h
   . simp only[WF]at h;obtain⟨x,_,h⟩:=h;obtain⟨h1,h2⟩:=jY hw h;refine⟨h1,fun i hi'=> ?_⟩;rw[h2 i hi',EK,if_neg (fun e=>hi' (by omega)),if_neg (fun e=>hi' (by omega))]
   . cases h
noncomputable def Gh.cut (G:Gh)(hp:Hp):Gh:={G with reg:=fun k=>match hp.get k with|some _=>G.reg k|none=>none}
theorem Li {H H1:aT}{G G1:Gh}{hp hp1:Hp}(hi:Inv H G hp)(hcl:∀k o,hp.get k=some o->∀j∈bO o,hp.get j≠none)(hs:Step H G hp H1 G1 hp1)
  (hold:∀k,hp.get k≠none->hp1.get k=hp.get k):Step H G hp H1 (G1.cut hp) hp:=by
 have hcut:∀k,hp.get k≠none->(G1.cut hp).reg k=G1.reg k:=fun k hk=>by
  cases h:hp.get k with
  | none=>exact absurd h hk
  | some o=>simp[Gh.cut,h]
 obtain⟨hinv,hlive⟩:=El (G':=G1.cut hp) (hp':=hp) hs.inv id (fun b=>Iff.rfl) (fun i l h=>h)
  (fun k o hk=>.inl ⟨by rw[id,hold k (by simp[hk]),hk],hcut k (by simp[hk]),fun j hj=>hcut j (hcl k o hk j hj)⟩)
  (fun k hk=>by simp[Gh.cut,hk]) (fun k k' b r r' _ _ _ _ h=>h)
 refine⟨hinv,⟨hs.le.imm,fun k r hk=> ?_,hs.le.yl⟩,hs.size,hs.same,fun b hb=>hs.live b (hlive b hb),hs.immNew⟩;obtain⟨o,ho⟩:=hi.reg_get hk;rw[hcut k (by simp[ho])];exact hs.le.reg k r hk
def LY (ops:Array Oper)(g:Option (Nat×Bool))(i q:Nat)(tmps:Array Value):Prop :=
 match g with
 | none=>True
 | some (j,want)=>∃c,(ops[j]?).bind (·.dst)=some c/\tmps.getD c undef= .bool want/\∀r,i<=r->r<q->(ops[r]?).bind (·.dst)≠some c
theorem nD {j c:Nat}{tmps:Array Value}{b:Bool}(h:(ops[j]?).bind (·.dst)=some c)(hc:tmps.getD c undef= .bool b):yielded ops tmps j=some b:=by
 have hlt:c<tmps.size:=by
  rcases ww c tmps.size with h'|h'
  . exact h'
  . rw[wB,wD h']at hc;cases hc
 have:tmps[c]? =some (.bool b):=by rw[wB]at hc;simp[hlt]at hc ⊢;exact hc
 simp only[yielded,h,WK,this]
theorem uH {j c:Nat}{tmps:Array Value}(h:(ops[j]?).bind (·.dst)=some c)(hc:tmps.getD c undef=undef):yielded ops tmps j=none:=by
 simp only[yielded,h,WK]
 cases hx:tmps[c]? with
 | none=>rfl
 | some x =>rw[wB,hx]at hc;simp only[WL]at hc;subst hc;rfl
theorem qx {g:Option (Nat×Bool)}{i q:Nat}{tmps:Array Value}{o:Oper}(h:LY ops g i q tmps)(hg:o.guard=g):Region.wanted o (yielded ops tmps)=true:=by
 subst hg;unfold Region.wanted
 cases hg:o.guard with
 | none=>rfl
 | some p =>obtain⟨j,want⟩:=p;rw[hg]at h;obtain⟨c,hc,hv,_⟩:=h;simp only[nD hc hv];simp
theorem AU {g:Option (Nat×Bool)}{i q:Nat}{a:Act}{o:Oper}{v:Value}(h:LY ops g i q a.tmps)(ho:ops[i]? =some o)(hlt:i<q)(hd:∀d,o.dst=some d->d<a.tmps.size) :
  LY ops g (i+1) q (a.put o.dst v).tmps:=by
 cases g with
 | none=>trivial
 | some p =>
   obtain⟨j,want⟩:=p;obtain⟨c,hc,hv,hr⟩:=h;refine⟨c,hc,?_,fun r h1 h2=>hr r (by omega) h2⟩;rw[ig a o.dst v hd,if_neg]
   . exact hv
   . have:=hr i (wo _) hlt;rw[ho]at this;exact this
theorem jF (a:Act)(d:Option Tmp)(v:Value):(a.put d v).defers=a.defers:=by cases d<;>rfl
theorem MH (hF:∀f,F.fn f){i q k c lo hi:Nat}{want t:Bool}(hb:Bu P im ops i q k c lo hi want=true)(hk:(ops[k]?).bind (·.dst)=some c)(ht:t≠want)(hq:q<=ops.size)
  (Q:Exit->Act->World->Prop) (w:World) :
  ∀(cnt r:Nat) (a:Act),q=r+cnt->i<=r->(∀(i:Nat) (o:Oper),ops[i]? =some o->∀d,o.dst=some d->d<a.tmps.size)->a.tmps.getD c undef= .bool t ->
   (∀r',i<=r'->r'<r->∀d,(ops[r']?).bind (·.dst)=some d->a.tmps.getD d undef=undef) ->
   (∀a',(∀x,(∀r',i<=r'->r'<q->(ops[r']?).bind (·.dst)≠some x)->a'.tmps.getD x undef=a.tmps.getD x undef)->a'.tmps.getD c undef= .bool t->a'.tmps.size=a.tmps.size->a'.defers=a.defers->wpOpsIn F n P ops Q (ix ops q) a' w) ->
   wpOpsIn F n P ops Q (ix ops r) a w:=by
 intro cnt
 induction cnt with
 | zero =>
   intro r a hqr _ _ hc _ hK;obtain rfl:r=q:=by omega
   exact hK a (fun _ _=>rfl) hc rfl rfl
 | succ cnt ih =>
   intro r a hqr hir hdst hc hun hK;obtain⟨o,d,ho,hd,h1,h2,h3,_,j,wt,hg,hgd⟩:=nw hb r hir (by omega);have hlt:r<ops.size:=by omega
   have hnw:Region.wanted o (yielded ops a.tmps)=false:=by
    simp only[Region.wanted,hg];rcases hgd with ⟨rfl,rfl⟩|⟨hj1,hj2⟩
    . rw[nD hk hc];simpa using ht
    . obtain⟨o',d',ho',hd',_⟩:=nw hb j hj1 (by omega);have hb':(ops[j]?).bind (·.dst)=some d':=by rw[ho'];exact hd'
      rw[uH hb' (hun j hj1 hj2 d' hb')];rfl
   rw[l9 hlt,wpOpsIn_cons,wpOpIn];simp only[ho,hnw,Bool.false_eq_true,if_false];have hput:∀x,(a.put o.dst undef).tmps.getD x undef=if o.dst=some x then undef else a.tmps.getD x undef:=fun x=>ig a o.dst undef (fun y hy=>hdst r o ho y hy) x
   refine⟨fun f _=>hF f,ih (r+1) (a.put o.dst undef) (by omega) (by omega) (fun i o' ho' d hd=>by rw[dk];exact hdst i o' ho' d hd) ?_ (fun r' hr1 hr2 d' hd'=> ?_) (fun a' g1 g2 g3 g4=> ?_)⟩
   . rw[hput c,if_neg]
     . exact hc
     . rw[hd];intro e;cases e;exact h3 rfl
   . rw[hput d'];split
     . rfl
     . by_cases hrr:r'=r
       . subst hrr;rename_i hne;rw[ho]at hd';exact absurd hd' hne
       . exact hun r' hr1 (by omega) d' hd'
   . refine hK a' (fun x hx=> ?_) g2 (g3.trans (dk _ _ _)) (g4.trans (jF _ _ _));rw[g1 x hx,hput x,if_neg];have:=hx r hir (by omega);rw[ho]at this;exact this
theorem Se (hOp:zA F n P gl cl)(hF:∀f,F.fn f){Q:Exit->Act->World->Prop}:∀(fuel:Nat) (g:Option (Nat×Bool)) (lo i:Nat) (its:Its) (q:Nat),
  cG P im ops fuel g lo i=some (its,q)->∀(a:Act) (w:World) (G:Gh) (st st':St),(∀(i:Nat) (o:Oper),ops[i]? =some o->∀d,o.dst=some d->d<a.tmps.size) ->
   LY ops g i q a.tmps->GlOk w.heap G gl->StOk w.heap G st a.tmps->bA gl cl its st=some st' ->
   (∀a' w' G',Kept w w'->Step w.heap G st.hp w'.heap G' st'.hp->StOk w'.heap G' st' a'.tmps->a'.tmps.size=a.tmps.size->a'.defers=a.defers->(∀x,(∀r,i<=r->r<q->(ops[r]?).bind (·.dst)≠some x)->a'.tmps.getD x undef=a.tmps.getD x undef) ->
     wpOpsIn F n P ops Q (ix ops q) a' w') ->
   wpOpsIn F n P ops Q (ix ops i) a w:=by
 intro fuel
 induction fuel with
 | zero=>intro g lo i its q h;simp[cG]at h
 | succ fuel ih =>
   intro g lo i its q h a w G st st' hdst hgd hg hst hev hK;rcases mN h with ⟨rfl,rfl⟩|⟨o,m,rest,ho,hog,hm,hrest,rfl⟩|⟨o,j,want,blk,q1,o1,c,d,l,hh,x,y,x',y',rest,ho,hI⟩
   . simp only[bA,WG]at hev;subst hev;exact hK a w G (Kept.refl w) (Step.refl hst.inv) hst rfl rfl fun _ _=>rfl
   . have hlt:i<ops.size:=(wC.1 ho).1;have hge:=eC hrest;simp only[bA,WF]at hev;obtain⟨⟨v,us⟩,hr,hev⟩:=hev;rw[l9 hlt,wpOpsIn_cons,wpOpIn];simp only[ho,qx hgd hog,if_true];refine hOp o m a w G st v us hg hst hm hr _ _ fun v' w' G' hk hs hv=> ?_
     have hdo:∀d,o.dst=some d->d<a.tmps.size:=fun d hd=>hdst i o ho d hd
     refine ih g lo (i+1) rest q hrest (a.put o.dst v') w' G' _ st' (fun i o' ho' d hd=>by rw[dk];exact hdst i o' ho' d hd) (AU hgd ho (by omega) hdo) (hg.mono hs.le) (hY hst hdo hs hv) hev ?_;intro a' w'' G'' h1 h2 h3 h4 h5 h6;refine hK a' w'' G'' (hk.trans h1) (hs.trans h2) h3 (h4.trans (dk _ _ _)) (h5.trans (jF _ _ _)) fun x hx=> ?_
     rw[h6 x fun r a b=>hx r (by omega) b,ig a o.dst v' hdo,if_neg];have:=hx i (wo _) (by omega);rw[ho]at this;exact this
   . have hge:=eC hI.more;have hgt:=ue ho hI.guard hI.inner;have hq1:q1<ops.size:=(wC.1 hI.at1).1;have hblk:=nw hI.chk;have hout:∀r,i<=r->r<q1->∀x,(ops[r]?).bind (·.dst)=some x->l<=x/\x<hh+1/\x≠c:=fun r h1 h2 x hx=>by obtain⟨o',d',ho',hd',e1,e2,e3,_⟩:=hblk r h1 h2;rw[ho']at hx;simp only[WK,hd',WG]at hx;subst hx;exact⟨e1,e2,e3⟩
     rw[hI.eq]at hev;simp only[bA]at hev;split at hev
     . rename_i t ht;have hct:a.tmps.getD c undef= .bool t:=by have:=hst.fr c;rw[ht]at this;exact cA this
       simp only[WF]at hev;obtain⟨z,hz,hev⟩:=hev;have tail:∀(a1:Act) (w1:World) (G1:Gh) (xo:Operand),Kept w w1->Step w.heap G st.hp w1.heap G1 st.hp->a1.tmps.size=a.tmps.size->a1.defers=a.defers->a1.tmps.getD c undef= .bool t ->
         (∀x,¬(l<=x/\x<hh+1)->RepT w1.heap G1 (a1.tmps.getD x undef) (st.fr.get x))->xo=(if t then x else y)->RepT w1.heap G1 (a1.eval xo) z ->
         (∀x,(∀r,i<=r->r<q1->(ops[r]?).bind (·.dst)≠some x)->a1.tmps.getD x undef=a.tmps.getD x undef)->wpOpsIn F n P ops Q (ix ops q1) a1 w1:=by
        intro a1 w1 G1 xo hk hs hsz hdf hc1 hfr hxo hrep hkeep;have hgd1:LY ops g q1 q a1.tmps:=by
         cases g with
         | none=>trivial
         | some p =>obtain⟨j',want'⟩:=p;obtain⟨c',hc',hv',hr'⟩:=hgd;exact⟨c',hc',by rw[hkeep c' fun r h1 h2=>hr' r h1 (by omega)];exact hv',fun r h1 h2=>hr' r (by omega) h2⟩
        have hdo1:∀e,o1.dst=some e->e<a1.tmps.size:=fun e he=>by rw[hsz];exact hdst q1 o1 hI.at1 e he
        rw[l9 hq1,wpOpsIn_cons,wpOpIn];simp only[hI.at1,qx hgd1 hI.guard1,if_true];have hrun:(execOp a1.eval o1).run P w1= .ok (.value (a1.eval xo)) w1:=by
         have hce:a1.eval (.tmp c)= .bool t:=by rw[<-hc1];rfl
         have hop:=hI.op1;subst hxo;unfold execOp;simp only[hop,hce];cases t<;>simp[asBool]
        unfold Oper.wpIn;refine⟨fun f _=>hF f,?_⟩;rw[Oper.semAt_eq _ _ _ (by rw[hI.op1];intro c h;cases h),hrun,Oper.uponIn_value];refine ih g lo (q1+1) rest q hI.more (a1.put o1.dst (a1.eval xo)) w1 G1 _ st' (fun i o' ho' d hd=>by rw[dk,hsz];exact hdst i o' ho' d hd) (AU hgd1 hI.at1 (by omega) hdo1) (hg.mono hs.le) ?_ hev ?_
        . refine⟨hs.inv,fun e=> ?_⟩;rw[ig a1 o1.dst _ hdo1,EK,hI.dst1];simp only[WG];by_cases h1:d=e
          . simp only[h1,if_true];exact hrep
          . simp only[h1,if_false];by_cases h2:l<=e/\e<hh+1
            . simp only[h2,and_self,if_true];trivial
            . rw[if_neg h2];exact hfr e h2
        . intro a' w'' G'' g1 g2 g3 g4 g5 g6;refine hK a' w'' G'' (hk.trans g1) (hs.trans g2) g3 (g4.trans ((dk _ _ _).trans hsz)) (g5.trans ((jF _ _ _).trans hdf)) fun x hx=> ?_
          rw[g6 x fun r a b=>hx r (by omega) b,ig a1 o1.dst _ hdo1,if_neg]
          . exact hkeep x fun r a b=>hx r a (by omega)
          . have:=hx q1 (by omega) (by omega);rw[hI.at1]at this;exact this
       by_cases htw:t=want
       . rw[if_pos htw]at hz;subst htw;rw[WF]at hz;obtain⟨st1,hb1,hz⟩:=hz;rw[WJ]at hz;obtain⟨hpl,hz⟩:=hz
         . simp only[WG]at hz;subst hz;refine ih (some (j,t)) i i blk q1 hI.inner a w G st st1 hdst ⟨c,hI.test,hct,fun r h1 h2 e=>(hout r h1 h2 c e).2.2 rfl⟩ hg hst hb1 ?_;intro a1 w1 G1 g1 g2 g3 g4 g5 g6;have hw:=iA (lo':=l) (hi':=hh+1) hI.inner fun r h1 h2=>by obtain⟨o',d',ho',hd',e1,e2,_,e4,_⟩:=hblk r h1 h2;exact⟨o',d',ho',hd',e1,e2,e4⟩
           obtain⟨hold,hfr⟩:=jY hw hb1;have hcl:=hst.closed;have hs':=Li hst.inv hcl.all g2 hold;have hcut:∀{v:Value} {b:AV},RepT w1.heap G1 v b->(∀k∈b.refs,st.hp.get k≠none)->RepT w1.heap (G1.cut st.hp) v b:=fun hr hk=>by
            refine hr.cut (fun b h=>h) (fun i l h=>h) fun k hk'=> ?_
            cases hx:st.hp.get k with
            | none=>exact absurd hx (hk k hk')
            | some o=>simp[Gh.cut,hx]
           refine tail a1 w1 (G1.cut st.hp) (if t then x else y) g1 hs' g4 g5 ?_ (fun e he=> ?_) rfl ?_ g6
           . rw[g6 c fun r h1 h2 e=>(hout r h1 h2 c e).2.2 rfl];exact hct
           . have:=g3.fr e;rw[hfr e he]at this;exact hcut this fun k hk=>hcl.fr e k hk
           . have:RepT w1.heap G1 (a1.eval (if t then x else y)) ((if t then x' else y').val gl st1.fr):=by
              cases t
              . exact aG (hg.mono g2.le) g3 hI.opy
              . exact aG (hg.mono g2.le) g3 hI.opx
             exact hcut this fun k hk=>by rw[AV.plain_refs hpl]at hk;cases hk
       . rw[if_neg htw]at hz;simp only[WG]at hz;subst hz;refine MH hF hI.chk hI.test htw (by omega) Q w (q1-i) i a (by omega) (wo _) hdst hct (fun r' h1 h2=>by omega) ?_;intro a1 g1 g2 g3 g4
         have hno:∀e,¬(l<=e/\e<hh+1)->∀r,i<=r->r<q1->(ops[r]?).bind (·.dst)≠some e:=fun e he r h1 h2 h3 =>
          he ⟨(hout r h1 h2 e h3).1,(hout r h1 h2 e h3).2.1⟩
         refine tail a1 w G (if t then x else y) (Kept.refl w) (Step.refl hst.inv) g3 g4 g2 (fun e he=>by rw[g1 e (hno e he)];exact hst.fr e) rfl ?_ g1
         . have hsel:(if t then x else y)=(if want then y else x):=by cases t<;>cases want<;>first|rfl|exact absurd rfl htw
           rw[hsel];have hcomp:aw (if want then y else x)=some (if want then y' else x'):=by cases want<;>first|exact hI.opx|exact hI.opy
           have hr:=aG hg hst hcomp;have hsame:a1.eval (if want then y else x)=a.eval (if want then y else x):=by
            generalize (if want then y else x)=xo at hcomp ⊢
            cases xo with
            | tmp e =>simp only[aw,WG]at hcomp;have ho:=hI.out;rw[<-hcomp]at ho;simp only[Opd.out,WA,Bool.and_eq_false_iff,decide_eq_false_iff_not]at ho;exact g1 e (hno e (by omega))
            | _=>rfl
           rw[hsame];exact hr
     . cases hev
theorem Ey (hOp:zA F n P gl cl)(hF:∀f,F.fn f){Q:Exit->Act->World->Prop}:∀(fos:List FO) (i:Nat) (a:Act) (w:World) (G:Gh) (st st':St) (ks:List (List Nat)),
  (∀j (h:j<fos.length),∃o,ops[i+j]? =some o/\gI P im ops o=some fos[j])->i+fos.length=ops.size->(∀(i:Nat) (o:Oper),ops[i]? =some o->∀d,o.dst=some d->d<a.tmps.size) ->
    GlOk w.heap G gl->StOk w.heap G st a.tmps->cj gl cl fos st=some (st',ks) ->
    (∀a' w' G',Kept w w'->Step w.heap G st.hp w'.heap G' st'.hp->StOk w'.heap G' st' a'.tmps->a'.tmps.size=a.tmps.size->a'.defers=a.defers->Q .normal a' w') ->
    wpOpsIn F n P ops Q (ix ops i) a w
 | [],i,a,w,G,st,st',ks,_,hl,_,_,hst,hev,hK=>by simp only[cj,WG,WM]at hev;obtain⟨rfl,_⟩:=hev;rw[AW (by simp at hl;omega)];exact hK a w G (Kept.refl w) (Step.refl hst.inv) hst rfl rfl
 | f::fos,i,a,w,G,st,st',ks,hfo,hl,hd,hg,hst,hev,hK=>by
   obtain⟨o,ho,hc⟩:=hfo 0 (by simp);rw[wu]at ho;have hlt:i<ops.size:=(wC.1 ho).1;rw[lA]at hev;simp only[WF,WH,WM]at hev;obtain⟨t,ht,⟨st2,ks2⟩,hev,h1,h2⟩:=hev;simp only at h1;subst h1;rw[l9 hlt,wpOpsIn_cons];refine PO hOp hF ho hc (fun d hdd=>hd i o ho d hdd) hg hst ht fun a' w' G' hk hs hst' hsz hdf=> ?_
   refine Ey hOp hF fos (i+1) a' w' G' _ st2 ks2 (fun j hj=> ?_) (by simp only[we]at hl;omega) (fun i o ho d hdd=>by rw[hsz];exact hd i o ho d hdd) (hg.mono hs.le) hst' hev ?_
   . obtain⟨o',h1,h2⟩:=hfo (j+1) (by simp;omega);refine⟨o',?_,by simpa using h2⟩;rw[show i+1+j=i+(j+1) by omega];exact h1
   . intro a'' w'' G'' e1 e2 e3 e4 e5;exact hK a'' w'' G'' (hk.trans e1) (hs.trans e2) e3 (e4.trans hsz) (e5.trans hdf)
end
section
variable {H H':aT} {G G':Gh}
def Gh.over (G G':Gh):Gh:={imm:=G'.imm,yl:=G'.yl,reg:=G.reg}
theorem x9 (himm:∀b,G.imm b->G'.imm b/\H'[b]? =H[b]?)(hyl:∀i l,G.yl i=some l->G'.yl i=some l):Le H G H' (G.over G'):=⟨himm,fv fun _ _ h=>h,hyl⟩
theorem RepS.move {v:Value}{x:AV}(h:RepS H G v x)(himm:∀b,G.imm b->G'.imm b/\H'[b]? =H[b]?)(hyl:∀i l,G.yl i=some l->G'.yl i=some l)
  (hk:∀k∈x.refs,G'.reg k=G.reg k):RepS H' G' v x:=(h.mono (x9 himm hyl)).cut (fun _ h=>h) (fun _ _ h=>h) hk
theorem RepV.move {v:Value}{x:AV}(h:RepV H G v x)(himm:∀b,G.imm b->G'.imm b/\H'[b]? =H[b]?)(hyl:∀i l,G.yl i=some l->G'.yl i=some l)
  (hk:∀k∈x.refs,G'.reg k=G.reg k):RepV H' G' v x:=(h.mono (x9 himm hyl)).cut (fun _ h=>h) (fun _ _ h=>h) hk
theorem RepT.move {v:Value}{x:AV}(h:RepT H G v x)(himm:∀b,G.imm b->G'.imm b/\H'[b]? =H[b]?)(hyl:∀i l,G.yl i=some l->G'.yl i=some l)
  (hk:∀k∈x.refs,G'.reg k=G.reg k):RepT H' G' v x:=(h.mono (x9 himm hyl)).cut (fun _ h=>h) (fun _ _ h=>h) hk
theorem RepC.moveP {c:Array Value}{off:Nat}{x:AV}(h:RepC H G c off x.flat)(hw:x.wf)(hp:x.plain=true)(himm:∀b,G.imm b->G'.imm b/\H'[b]? =H[b]?)(hyl:∀i l,G.yl i=some l->G'.yl i=some l) :
  RepC H' G' c off x.flat:=fun j hj =>
 let ⟨v,hv,hr⟩:=h j hj
 ⟨v,hv,hr.move himm hyl fun k hk=>by rw[gb x hp hw _ (wG hj)]at hk;cases hk⟩
theorem GlOk.move {gl:Gl}(h:GlOk H G gl)(himm:∀b,G.imm b->G'.imm b/\H'[b]? =H[b]?)(hyl:∀i l,G.yl i=some l->G'.yl i=some l):GlOk H' G' gl:=⟨fun i sh a hi=>by
 obtain⟨h1,h2,h3,h4,c,e,fz,h5,h6⟩:=h.tab i sh a hi;exact⟨(himm i h1).1,h2,h3,h4,c,e,fz,(himm i h1).2.trans h5,h6.moveP h4 h3 himm hyl⟩,fun i r hi=>hyl _ _ (h.ri i r hi)⟩
theorem GlOk.moved {gl:Gl}{hp hp':Hp}(h:GlOk H G gl)(m:Move H G hp H' G' hp'):GlOk H' G' gl:=h.move m.imm m.yl
theorem Move.refl {hp:Hp}(h:Inv H G hp):Move H G hp H G hp:=(Step.refl h).move
structure LendOk (H:aT)(G G':Gh)(a x:AV):Prop where
 wf:x.wf
 agg:x.isAgg=a.isAgg
 known:a.known=true->x.known=true
 scalar:a.scalar=true->x.scalar=true
 sh:∀sh,aD sh a=true->aD sh x=true
 rep:∀vs,RepL H G vs a.flat->RepL H G' vs x.flat
theorem ei {v:Value}{a:AV}(h:a.scalar=true):RepL H G [v] a.flat↔RepS H G v a:=by
 rw[AV.flat_scalar h];constructor
 . intro hl;exact hl.get 0 (by simp) (by simp)
 . intro hs;refine⟨rfl,fun j h1 h2=> ?_⟩;have:j=0:=by simp at h1;omega
   subst this;exact hs
theorem kO {vs:List Value}{a:AV}(h:a.scalar=true)(hl:RepL H G vs a.flat):∃v,vs=[v]/\RepS H G v a:=by
 have hlen:=hl.len;rw[AV.flat_scalar h]at hlen
 match vs,hlen with
 | [v],_=>exact⟨v,rfl,(ei h).1 hl⟩
theorem B3 {vs:List Value}{l m:List AV}(h:RepL H G vs (l++m)):∃us ws,vs=us++ws/\RepL H G us l/\RepL H G ws m:=by
 have hlen:=h.len;rw[wa]at hlen;refine⟨vs.take l.length,vs.drop l.length,(w3 _ _).symm,⟨by rw[wd];omega,fun j h1 h2=> ?_⟩,⟨by rw[List.length_drop];omega,fun j h1 h2=> ?_⟩⟩
 . have:=h.get j (by omega) (by simp;omega);rw[List.getElem_append_left h2]at this;rw[List.getElem_take];exact this
 . have:=h.get (l.length+j) (by omega) (by simp;omega);rw[List.getElem_append_right (by omega)]at this;rw[List.getElem_drop];simpa using this
theorem Ij {vs:List Value}:RepL H G vs []↔vs=[]:=by
 constructor
 . intro h;exact wO h.len
 . rintro rfl;exact⟨rfl,fun j h=>by simp at h⟩
theorem s8 {f:AV->Option AV}:∀{l l':List AV},bw f l=some l'->(∀a∈l,∀x,f a=some x->LendOk H G G' a x)->AV.wfs l'/\l'.length=l.length /\
  (∀fs,bh fs l=true->bh fs l'=true)/\(∀e,l.all (aD e)=true->l'.all (aD e)=true)/\(∀vs,RepL H G vs (AV.flats l)->RepL H G' vs (AV.flats l')) /\
  (AV.scalars l=true->AV.scalars l'=true)/\∀i (h:i<l.length) (h':i<l'.length),LendOk H G G' l[i] l'[i]
 | [],l',h,_=>by simp only[bw,WG]at h;subst h;refine⟨trivial,rfl,fun fs h=>h,fun _ h=>h,fun vs h=> ?_,fun h=>h,fun i h=>by simp at h⟩;rw[AV.flats,Ij]at h ⊢;exact h
 | a::l,l',h,hf=>by
   simp only[bw,WF,WH]at h;obtain⟨b,hb,r,hr,rfl⟩:=h;have h1:=hf a (by simp) b hb;obtain⟨g1,g2,g3,g4,g5,g6,g7⟩:=s8 hr fun x hx=>hf x (by simp[hx])
   refine⟨⟨h1.wf,g1⟩,by simp[g2],fun fs h=> ?_,fun e h=> ?_,fun vs h=> ?_,fun h=> ?_,fun i hi hi'=> ?_⟩
   . cases fs with
     | nil=>simp[bh]at h
     | cons s fs =>simp only[bh,wx]at h ⊢;exact⟨h1.sh s h.1,g3 fs h.2⟩
   . simp only[w2,wx]at h ⊢;exact⟨h1.sh e h.1,g4 e h.2⟩
   . rw[AV.flats]at h ⊢;obtain⟨us,ws,rfl,k1,k2⟩:=B3 h;exact fi (h1.rep us k1) (g5 ws k2)
   . simp only[AV.scalars,wx]at h ⊢;exact⟨h1.scalar h.1,g6 h.2⟩
   . cases i with
     | zero=>exact h1
     | succ i=>exact g7 i (by simpa using hi) (by simpa using hi')
theorem mE :∀{l:List AV},AV.wfs l->AV.plains l=true->AV.wfp l
 | [],_,_=>trivial
 | a::l,h,hp=>by simp only[AV.plains,wx]at hp;exact⟨hp.1,h.1,mE h.2 hp.2⟩
theorem Ma {l:List AV}(h:(AV.aggR l).wf):AV.wfs l:=by simpa[AV.wf]using h
theorem qE {H:aT}{G:Gh}{hp:Hp}(inv:Inv H G hp){k off len:Nat}{p:List Nat}{q:Sh×List AV}(hc:bn hp (.sl k p off len)=some q)(b c:Nat)(X:Nat->Prop):G.reg k≠some (.nst b c X):=fun hr=>by rcases inv.isN hr with ⟨els,he⟩|he<;>simp[bn,he]at hc
theorem NK {hp:Hp}(inv:Inv H G hp)(himm:∀b,G.imm b->G'.imm b)(hlive:∀b,bG G hp b->G'.imm b)(hyl:∀i l,G.yl i=some l->G'.yl i=some l) :
  ∀(n:Nat) (a x:AV),aW hp n a=some x->a.wf->LendOk H G G' a x:=by
 have plain:∀(a:AV),a.plain=true->a.wf->LendOk H G G' a a:=fun a hp hw =>
  ⟨hw,rfl,id,id,fun _=>id,fun vs h=>⟨h.len,fun j h1 h2=>(h.get j h1 h2).cut himm hyl fun k hk=>by rw[gb a hp hw _ (wG h2)]at hk;cases hk⟩⟩
 intro n
 induction n with
 | zero =>intro a x h hw;simp only[aW,WJ,WG]at h;obtain⟨hp,rfl⟩:=h;exact plain a hp hw
 | succ n ih =>
   intro a x h hw;simp only[aW]at h;split at h
   . rename_i hpl;cases h;exact plain a hpl hw
   . split at h
     . rename_i k p off len _;simp only[WH]at h;obtain⟨⟨sh,l⟩,hc,rfl⟩:=h;refine⟨trivial,rfl,fun _=>rfl,fun _=>rfl,fun s hs=> ?_,fun vs hvs=> ?_⟩
       . cases s with
         | sc=>rfl
         | st fs=>simp[aD,AV.isAgg]at hs
         | ar n e=>simp[aD,AV.isAgg]at hs
       . obtain⟨v,rfl,hv⟩:=kO rfl hvs;refine(ei rfl).2 ?_;obtain⟨b,cap,hev,hels,hor⟩:=lE inv hv hc
         have hcap:l.length<=cap:=by
          rcases bF hv (qE inv hc)with ⟨a0,_,_,hl,he,_⟩|⟨b1,root,m,e,o,x1,hr,hs,ho,hle,he,hx⟩
          . rw[hev]at he;injection he with _ e2 e3;omega
          . rw[hev]at he;injection he with _ e2 e3;omega
         subst hev;refine oo hcap (fun h=>by cases h) hels ?_;rcases hor with h|⟨k1,off1,c,e,fz,h1,h2,h3⟩
         . exact .inl h
         . by_cases h0:l=[]
           . exact .inl h0
           . refine .inr ⟨k1,off1,c,e,fz,h1,?_,h2,fun j hj=> ?_⟩
             . rcases bF hv (qE inv hc)with ⟨a0,_,_,hl,he,_⟩|⟨b1,root,m,e,o,x1,hr,hs,ho,hle,he,hx⟩
               . injection he with _ he _
                 exact absurd (wO he) h0
               . injection he with he1 _ _
                 rw[h1]at he1;injection he1 with he1
                 injection he1 with he1 _ _
                 subst he1;refine hlive k1 ⟨k,root,?_,.of hr⟩;simp only[bn]at hc;split at hc
                 . exact⟨_,by assumption,by simp⟩
                 . exact⟨_,by assumption,by simp⟩
                 . cases hc
             . obtain⟨w,hw1,hw2⟩:=h3 j hj
               exact⟨w,hw1,hw2.cut himm hyl fun q hq=>by
                rw[cz l ((AV.wfp_iff l).2 fun y hy=>(hels y hy).2) _ (wG hj)]at hq;cases hq⟩
     . rename_i k p _;split at h
       . rename_i sh b hk;split at h
         . rename_i s x0 hs hn;simp only[WF]at h;obtain⟨y,hy,h⟩:=h;split at h
           . rename_i hpy;cases h;refine⟨trivial,rfl,fun _=>rfl,fun _=>rfl,fun s hs=> ?_,fun vs hvs=> ?_⟩
             . cases s with
               | sc=>rfl
               | st fs=>simp[aD,AV.isAgg]at hs
               | ar n e=>simp[aD,AV.isAgg]at hs
             . obtain⟨v,rfl,hv⟩:=kO rfl hvs;refine(ei rfl).2 ?_;obtain⟨b1,root,off,rfl,hr,ho⟩:=je hv;obtain⟨rfl,hsx,hwx,_,c,e,fz,hb,hf,hsz,hrc⟩:=lU inv hk hr ho hs hn;have hl:=ih x0 y hy hwx;refine oN (hlive b1 ⟨k,root,⟨_,hk,by simp⟩,.of hr⟩) hb ?_ (hl.sh s hsx) hpy hl.wf;obtain⟨val,hv1,hv2⟩:=ic hrc;have hL:RepL H G ((w8 x0.flat.length).map val) x0.flat:=⟨by simp,fun j h1 h2=>by simpa using hv2 j h2⟩;have hL':=hl.rep _ hL;have hlen:=hL'.len;simp only[wh,List.length_range]at hlen;intro j hj;refine⟨val j,hv1 j (by omega),?_⟩;have:=hL'.get j (by simp;omega) hj;simpa using this
           . cases h
         . cases h
       . cases h
     . rename_i l _;simp only[WF]at h;obtain⟨l',hl',h⟩:=h;split at h
       . rename_i hpl;cases h;have hws:=Ma hw;rw[AV.wfs_iff]at hws;obtain⟨g1,g2,g3,g4,g5,_,_⟩:=s8 hl' fun a ha x hx=>ih a x hx (hws a ha)
         refine⟨?_,rfl,fun _=>rfl,fun h=>by simp[AV.scalar]at h,fun s hs=> ?_,fun vs hvs=> ?_⟩
         . rw[AV.wf];exact mE g1 hpl
         . cases s with
           | sc=>simp[aD,AV.scalar]at hs
           | st fs=>simp only[aD,AV.isAgg,AV.kids,WD]at hs ⊢;exact g3 fs hs
           | ar n e=>simp only[aD,AV.isAgg,AV.kids,WD,wx,beq_iff_eq]at hs ⊢;exact⟨by omega,g4 e hs.2⟩
         . simp only[AV.flat]at hvs ⊢;exact g5 vs hvs
       . cases h
     . rename_i f l _;simp only[WH]at h;obtain⟨l',hl',rfl⟩:=h;refine⟨trivial,rfl,fun _=>rfl,fun _=>rfl,fun s hs=> ?_,fun vs hvs=> ?_⟩
       . cases s with
         | sc=>rfl
         | st fs=>simp[aD,AV.isAgg]at hs
         | ar n e=>simp[aD,AV.isAgg]at hs
       . obtain⟨v,rfl,hv⟩:=kO rfl hvs;refine(ei rfl).2 ?_
         cases hv with
         | fn _ _ _ us he hn hsc val hval hr =>
           have hws:∀a∈l,a.wf:=fun a ha=>AV.wf_scalar (by
            have:∀(l:List AV),AV.scalars l=true->∀a∈l,a.scalar=true:=by
             intro l
             induction l with
             | nil=>intro _ a h;cases h
             | cons b l ih =>
               intro h a ha;simp only[AV.scalars,wx]at h;rcases wH.1 ha with rfl|ha
               . exact h.1
               . exact ih h.2 a ha
            exact this l hsc a ha)
           obtain⟨g1,g2,_,_,_,g6,g7⟩:=s8 hl' fun a ha x hx=>ih a x hx (hws a ha)
           refine .fn _ f l' us he (by omega) (g6 hsc) val (fun i hi=>hval i (by omega)) fun i hi=> ?_
           have hi':i<l.length:=by omega
           have hk:=g7 i hi' hi;have hsci:l[i].scalar=true:=by
            have:∀(l:List AV),AV.scalars l=true->∀a∈l,a.scalar=true:=by
             intro l
             induction l with
             | nil=>intro _ a h;cases h
             | cons b l ih =>
               intro h a ha;simp only[AV.scalars,wx]at h;rcases wH.1 ha with rfl|ha
               . exact h.1
               . exact ih h.2 a ha
            exact this l hsc _ (wG hi')
           exact(ei (hk.scalar hsci)).1 (hk.rep _ ((ei hsci).2 (hr i hi')))
     . cases h
theorem pz {a x:AV}(h:x.isAgg=a.isAgg)(vs:List Value):dQ x vs=dQ a vs:=by unfold dQ;rw[h]
theorem AC {hp:Hp}(inv:Inv H G hp)(himm:∀b,G.imm b->G'.imm b)(hlive:∀b,bG G hp b->G'.imm b)(hyl:∀i l,G.yl i=some l->G'.yl i=some l)
  {n:Nat} {a x:AV} {v:Value} (h:aW hp n a=some x) (hv:RepV H G v a):RepV H G' v x:=by
 obtain⟨h1,h2,vs,h3,h4⟩:=hv;have hl:=NK inv himm hlive hyl n a x h h2;exact⟨hl.known h1,hl.wf,vs,hl.rep vs h3,by rw[pz hl.agg];exact h4⟩
theorem s9 {hp:Hp}:∀{n:Nat} {a x:AV},aW hp n a=some x->a.known=true
 | 0,a,x,h=>by simp only[aW,WJ]at h;have:=h.1;revert this;cases a<;>simp[AV.plain,AV.known]
 | n+1,a,x,h=>by simp only[aW]at h;cases a<;>simp_all[AV.known,AV.plain]
def ren (d k:Nat):Nat:=if 20000<=k then d+1000*(k-20000)else k
mutual
theorem HV (d:Nat):∀(a:AV),a.plain=true->rn d a=a
 | .agg _,_=>rfl
 | .bool _,_=>rfl
 | .int _ _,_=>rfl
 | .str _,_=>rfl
 | .s _,_=>rfl
 | .lst _ _ _,_=>rfl
 | .cp _ _,_=>rfl
 | .unk,h=>by cases h
 | .aggR _,h=>by cases h
 | .tup _,h=>by cases h
 | .sl _ _ _ _,h=>by cases h
 | .ptr _ _,h=>by cases h
 | .arp _ _ _ _,h=>by cases h
 | .fn _ _,h=>by cases h
 | .yld _,h=>by cases h
 | .mp _,h=>by cases h
end
theorem dZ (d:Nat):∀(l:List AV),(rns d l).length=l.length
 | []=>rfl
 | a::l=>by simp[rns,dZ d l]
theorem gj (d:Nat):∀(l:List AV),rns d l=l.map (rn d)
 | []=>rfl
 | a::l=>by simp[rns,gj d l]
mutual
theorem Fa (d:Nat):∀(a:AV),(rn d a).scalar=a.scalar
 | .agg _=>rfl
 | .bool _=>rfl
 | .int _ _=>rfl
 | .str _=>rfl
 | .s _=>rfl
 | .lst _ _ _=>rfl
 | .cp _ _=>rfl
 | .unk=>rfl
 | .aggR _=>rfl
 | .tup _=>rfl
 | .sl _ _ _ _=>rfl
 | .ptr _ _=>rfl
 | .arp _ _ _ _=>rfl
 | .fn _ _=>rfl
 | .yld _=>rfl
 | .mp _=>rfl
end
theorem HX (d:Nat)(a:AV):(rn d a).isAgg=a.isAgg:=by cases a<;>rfl
theorem HW (d:Nat)(a:AV):(rn d a).known=a.known:=by cases a<;>rfl
theorem qh (d:Nat):∀(l:List AV),AV.scalars (rns d l)=AV.scalars l
 | []=>rfl
 | a::l=>by simp[rns,AV.scalars,Fa,qh d l]
mutual
theorem Pf (d:Nat):∀(a:AV),a.wf->(rn d a).wf
 | .agg _,h=>h
 | .bool _,h=>h
 | .int _ _,h=>h
 | .str _,h=>h
 | .s _,h=>h
 | .lst _ _ _,h=>h
 | .cp _ _,h=>h
 | .unk,h=>h
 | .aggR l,h=>by rw[AV.wf]at h;rw[rn,AV.wf];exact BZ d l h
 | .tup l,h=>by rw[AV.wf]at h;rw[rn,AV.wf];exact BZ d l h
 | .sl _ _ _ _,_=>trivial
 | .ptr _ _,_=>trivial
 | .arp _ _ _ _,_=>trivial
 | .fn _ _,_=>trivial
 | .yld _,_=>trivial
 | .mp _,_=>trivial
theorem BZ (d:Nat):∀(l:List AV),AV.wfs l->AV.wfs (rns d l)
 | [],_=>trivial
 | a::l,h=>⟨Pf d a h.1,BZ d l h.2⟩
end
mutual
theorem xP (d:Nat):∀(a:AV),a.wf->(rn d a).flat=rns d a.flat
 | .agg l,h=>by rw[AV.wf]at h;show(AV.agg l).flat=rns d (AV.agg l).flat;simp only[AV.flat];exact j8 d l h
 | .bool _,_=>rfl
 | .int _ _,_=>rfl
 | .str _,_=>rfl
 | .s _,_=>rfl
 | .lst _ _ _,_=>rfl
 | .cp _ _,_=>rfl
 | .unk,_=>rfl
 | .aggR l,h=>by rw[AV.wf]at h;rw[rn,AV.flat,AV.flat];exact vB d l h
 | .tup _,_=>rfl
 | .sl _ _ _ _,_=>rfl
 | .ptr _ _,_=>rfl
 | .arp _ _ _ _,_=>rfl
 | .fn _ _,_=>rfl
 | .yld _,_=>rfl
 | .mp _,_=>rfl
theorem vB (d:Nat):∀(l:List AV),AV.wfs l->AV.flats (rns d l)=rns d (AV.flats l)
 | [],_=>rfl
 | a::l,h=>by rw[rns,AV.flats,AV.flats,xP d a h.1,vB d l h.2,gj,gj,gj,wT]
theorem j8 (d:Nat):∀(l:List AV),AV.wfp l->AV.flats l=rns d (AV.flats l)
 | [],_=>rfl
 | a::l,h=>by
   have h1:a.flat=rns d a.flat:=by rw[<-xP d a h.2.1,HV d a h.1]
   rw[AV.flats,gj,wT,<-gj,<-gj,<-h1,<-j8 d l h.2.2]
end
theorem RepS.rename {v:Value}{x:AV}{d:Nat}(h:RepS H G v x)(himm:db x=false->∀b,G.imm b->G'.imm b)(hyl:∀i l,G.yl i=some l->G'.yl i=some l) :
  (∀k∈x.refs,G'.reg (ren d k)=G.reg k)->RepS H G' v (rn d x):=by
 induction h with
 | bool b=>exact fun _=>.bool b
 | int k n=>exact fun _=>.int k n
 | str l=>exact fun _=>.str l
 | s v h=>exact fun _=>.s v h
 | ptr k p b root off hr ho=>exact fun hk=>.ptr _ p b root off ((hk k (by simp[AV.refs])).trans hr) ho
 | arp k p off n b root m e o hr hs ho hle=>exact fun hk=>.arp _ p off n b root m e o ((hk k (by simp[AV.refs])).trans hr) hs ho hle
 | sl k p off len b root m e o hr hs ho hle=>exact fun hk=>.sl _ p off len b root m e o ((hk k (by simp[AV.refs])).trans hr) hs ho hle
 | slZ k p off b x root m e hr hs ho=>exact fun hk=>.slZ _ p off b x root m e ((hk k (by simp[AV.refs])).trans hr) hs ho
 | slNil k a hr=>exact fun hk=>.slNil _ a ((hk k (by simp[AV.refs])).trans hr)
 | slN k n b cap X hr hle hn=>exact fun hk=>.slN _ n b cap X ((hk k (by simp[AV.refs])).trans hr) hle hn
 | ptrN k i b cap X hr hi=>exact fun hk=>.ptrN _ i b cap X ((hk k (by simp[AV.refs])).trans hr) hi
 | lstE full sh a cap h=>exact fun _=>.lstE full sh a cap h
 | lst full sh l b off len cap c e fz hi hb hl hc hf hsh val hv hr ih =>
   intro _;by_cases h0:l=[]
   . subst h0;simp only[wU]at hl;subst hl;exact .lstE full sh _ cap fun h=>hf h
   . have himm':=himm (by unfold db;simpa using h0);exact .lst full sh l b off len cap c e fz (himm' _ hi) hb hl hc hf hsh val hv fun j hj=>(hr j hj).cut himm' hyl fun k hk=>by rw[cz l ((AV.wfp_iff l).2 fun x hx=>(hsh x hx).2) _ (wG hj)]at hk;cases hk
 | cp sh a b off c e fz hi hb hsh val hv hr ih =>intro _;have himm':=himm rfl;exact .cp sh a b off c e fz (himm' _ hi) hb hsh val hv fun j hj=>(hr j hj).cut himm' hyl fun k hk=>by rw[gb a hsh.2.1 hsh.2.2 _ (wG hj)]at hk;cases hk
 | fn v f caps vs he hn hsc val hv hr ih =>
   intro hk;have himm':=himm rfl;refine .fn v f (rns d caps) vs he (by rw[dZ];exact hn) (by rw[qh];exact hsc) val (fun i hi=>hv i (by rw[dZ]at hi;exact hi)) fun i hi=> ?_
   have hi':i<caps.length:=by rw[dZ]at hi;exact hi
   have:(rns d caps)[i]=rn d caps[i]:=by simp[gj]
   rw[this];exact ih i hi' (fun _=>himm') fun k h=>hk k (by rw[AV.refs];exact bL (wG hi') h)
 | yld k b hr=>exact fun hk=>.yld _ b ((hk k (by simp[AV.refs])).trans hr)
 | mp k b hr=>exact fun hk=>.mp _ b ((hk k (by simp[AV.refs])).trans hr)
theorem mX :∀{l:List AV},dN l=true->∀a∈l,db a=true
 | [],_,_,h=>by cases h
 | b::l,h,a,ha=>by
   simp only[dN,wx]at h;rcases wH.1 ha with rfl|ha
   . exact h.1
   . exact mX h.2 a ha
mutual
theorem mY :∀(a:AV),db a=true->∀y∈a.flat,db y=true
 | .agg l,h,y,hy=>by rw[AV.flat]at hy;rw[db]at h;exact gO l h y hy
 | .aggR l,h,y,hy=>by rw[AV.flat]at hy;rw[db]at h;exact gO l h y hy
 | .bool _,h,y,hy=>by simp only[AV.flat,wF]at hy;subst hy;exact h
 | .int _ _,h,y,hy=>by simp only[AV.flat,wF]at hy;subst hy;exact h
 | .str _,h,y,hy=>by simp only[AV.flat,wF]at hy;subst hy;exact h
 | .s _,h,y,hy=>by simp only[AV.flat,wF]at hy;subst hy;exact h
 | .lst _ _ _,h,y,hy=>by simp only[AV.flat,wF]at hy;subst hy;exact h
 | .cp _ _,h,y,hy=>by simp only[AV.flat,wF]at hy;subst hy;exact h
 | .unk,h,y,hy=>by simp only[AV.flat,wF]at hy;subst hy;exact h
 | .tup _,h,y,hy=>by simp only[AV.flat,wF]at hy;subst hy;exact h
 | .sl _ _ _ _,h,y,hy=>by simp only[AV.flat,wF]at hy;subst hy;exact h
 | .ptr _ _,h,y,hy=>by simp only[AV.flat,wF]at hy;subst hy;exact h
 | .arp _ _ _ _,h,y,hy=>by simp only[AV.flat,wF]at hy;subst hy;exact h
 | .fn _ _,h,y,hy=>by simp only[AV.flat,wF]at hy;subst hy;exact h
 | .yld _,h,y,hy=>by simp only[AV.flat,wF]at hy;subst hy;exact h
 | .mp _,h,y,hy=>by simp only[AV.flat,wF]at hy;subst hy;exact h
theorem gO :∀(l:List AV),dN l=true->∀y∈AV.flats l,db y=true
 | [],_,y,hy=>by simp[AV.flats]at hy
 | a::l,h,y,hy=>by
   simp only[dN,wx]at h;rw[AV.flats,wZ]at hy;rcases hy with hy|hy
   . exact mY a h.1 y hy
   . exact gO l h.2 y hy
end
theorem RepV.rename {v:Value}{x:AV}{d:Nat}(h:RepV H G v x)(himm:db x=true\/∀b,G.imm b->G'.imm b)(hyl:∀i l,G.yl i=some l->G'.yl i=some l)
  (hk:∀k∈x.refs,G'.reg (ren d k)=G.reg k):RepV H G' v (rn d x):=by
 obtain⟨h1,h2,vs,h3,h4⟩:=h;refine⟨by rw[HW];exact h1,Pf d x h2,vs,?_,by rw[pz (HX d x)];exact h4⟩;rw[xP d x h2];refine⟨by rw[dZ];exact h3.len,fun j a b=> ?_⟩;have b':j<x.flat.length:=by rw[dZ]at b;exact b
 have e:(rns d x.flat)[j]=rn d x.flat[j]:=by simp[gj]
 rw[e];refine(h3.get j a b').rename (fun hni=> ?_) hyl fun k h=>hk k (hJ x h2 _ (wG b') k h)
 rcases himm with h|h
 . rw[mY x h _ (wG b')]at hni;cases hni
 . exact h
theorem RepT.rename {v:Value}{x:AV}{d:Nat}(h:RepT H G v x)(himm:db x=true\/∀b,G.imm b->G'.imm b)(hyl:∀i l,G.yl i=some l->G'.yl i=some l)
  (hk:∀k∈x.refs,G'.reg (ren d k)=G.reg k):RepT H G' v (rn d x):=by
 cases x with
 | unk=>trivial
 | tup l =>
   obtain⟨vs,hv,hs,hr⟩:=h;refine⟨vs,hv,by rw[dZ];exact hs,fun i a b=> ?_⟩;have b':i<l.length:=by rw[dZ]at b;exact b
   have e:(rns d l)[i]=rn d l[i]:=by simp[gj]
   rw[e];refine(hr i a b').rename (himm.imp (fun h=> ?_) id) hyl fun k h=>hk k (by rw[AV.refs];exact bL (wG b') h)
   rw[db]at h;exact mX h _ (wG b')
 | _=>exact RepV.rename h himm hyl hk
mutual
theorem Iv (ρ:Nat->Nat):∀(a:AV),a.plain=true->rA ρ a=a
 | .agg _,_=>rfl
 | .bool _,_=>rfl
 | .int _ _,_=>rfl
 | .str _,_=>rfl
 | .s _,_=>rfl
 | .lst _ _ _,_=>rfl
 | .cp _ _,_=>rfl
 | .unk,h=>by cases h
 | .aggR _,h=>by cases h
 | .tup _,h=>by cases h
 | .sl _ _ _ _,h=>by cases h
 | .ptr _ _,h=>by cases h
 | .arp _ _ _ _,h=>by cases h
 | .fn _ _,h=>by cases h
 | .yld _,h=>by cases h
 | .mp _,h=>by cases h
end
theorem bI (ρ:Nat->Nat):∀(l:List AV),(rAs ρ l).length=l.length
 | []=>rfl
 | a::l=>by simp[rAs,bI ρ l]
theorem dz (ρ:Nat->Nat):∀(l:List AV),rAs ρ l=l.map (rA ρ)
 | []=>rfl
 | a::l=>by simp[rAs,dz ρ l]
mutual
theorem vE (ρ:Nat->Nat):∀(a:AV),(rA ρ a).scalar=a.scalar
 | .agg _=>rfl
 | .bool _=>rfl
 | .int _ _=>rfl
 | .str _=>rfl
 | .s _=>rfl
 | .lst _ _ _=>rfl
 | .cp _ _=>rfl
 | .unk=>rfl
 | .aggR _=>rfl
 | .tup _=>rfl
 | .sl _ _ _ _=>rfl
 | .ptr _ _=>rfl
 | .arp _ _ _ _=>rfl
 | .fn _ _=>rfl
 | .yld _=>rfl
 | .mp _=>rfl
end
theorem sn (ρ:Nat->Nat)(a:AV):(rA ρ a).isAgg=a.isAgg:=by cases a<;>rfl
theorem Ix (ρ:Nat->Nat)(a:AV):(rA ρ a).known=a.known:=by cases a<;>rfl
theorem qk (ρ:Nat->Nat):∀(l:List AV),AV.scalars (rAs ρ l)=AV.scalars l
 | []=>rfl
 | a::l=>by simp[rAs,AV.scalars,vE,qk ρ l]
mutual
theorem Iu (ρ:Nat->Nat):∀(a:AV),a.wf->(rA ρ a).wf
 | .agg _,h=>h
 | .bool _,h=>h
 | .int _ _,h=>h
 | .str _,h=>h
 | .s _,h=>h
 | .lst _ _ _,h=>h
 | .cp _ _,h=>h
 | .unk,h=>h
 | .aggR l,h=>by rw[AV.wf]at h;rw[rA,AV.wf];exact B7 ρ l h
 | .tup l,h=>by rw[AV.wf]at h;rw[rA,AV.wf];exact B7 ρ l h
 | .sl _ _ _ _,_=>trivial
 | .ptr _ _,_=>trivial
 | .arp _ _ _ _,_=>trivial
 | .fn _ _,_=>trivial
 | .yld _,_=>trivial
 | .mp _,_=>trivial
theorem B7 (ρ:Nat->Nat):∀(l:List AV),AV.wfs l->AV.wfs (rAs ρ l)
 | [],_=>trivial
 | a::l,h=>⟨Iu ρ a h.1,B7 ρ l h.2⟩
end
mutual
theorem qZ (ρ:Nat->Nat):∀(a:AV),a.wf->(rA ρ a).flat=rAs ρ a.flat
 | .agg l,h=>by rw[AV.wf]at h;show(AV.agg l).flat=rAs ρ (AV.agg l).flat;simp only[AV.flat];exact j9 ρ l h
 | .bool _,_=>rfl
 | .int _ _,_=>rfl
 | .str _,_=>rfl
 | .s _,_=>rfl
 | .lst _ _ _,_=>rfl
 | .cp _ _,_=>rfl
 | .unk,_=>rfl
 | .aggR l,h=>by rw[AV.wf]at h;rw[rA,AV.flat,AV.flat];exact vD ρ l h
 | .tup _,_=>rfl
 | .sl _ _ _ _,_=>rfl
 | .ptr _ _,_=>rfl
 | .arp _ _ _ _,_=>rfl
 | .fn _ _,_=>rfl
 | .yld _,_=>rfl
 | .mp _,_=>rfl
theorem vD (ρ:Nat->Nat):∀(l:List AV),AV.wfs l->AV.flats (rAs ρ l)=rAs ρ (AV.flats l)
 | [],_=>rfl
 | a::l,h=>by rw[rAs,AV.flats,AV.flats,qZ ρ a h.1,vD ρ l h.2,dz,dz,dz,wT]
theorem j9 (ρ:Nat->Nat):∀(l:List AV),AV.wfp l->AV.flats l=rAs ρ (AV.flats l)
 | [],_=>rfl
 | a::l,h=>by
   have h1:a.flat=rAs ρ a.flat:=by rw[<-qZ ρ a h.2.1,Iv ρ a h.1]
   rw[AV.flats,dz,wT,<-dz,<-dz,<-h1,<-j9 ρ l h.2.2]
end
theorem RepS.renA {v:Value}{x:AV}{ρ:Nat->Nat}(h:RepS H G v x)(himm:db x=false->∀b,G.imm b->G'.imm b)(hyl:∀i l,G.yl i=some l->G'.yl i=some l) :
  (∀k∈x.refs,G'.reg (ρ k)=G.reg k)->RepS H G' v (rA ρ x):=by
 induction h with
 | bool b=>exact fun _=>.bool b
 | int k n=>exact fun _=>.int k n
 | str l=>exact fun _=>.str l
 | s v h=>exact fun _=>.s v h
 | ptr k p b root off hr ho=>exact fun hk=>.ptr _ p b root off ((hk k (by simp[AV.refs])).trans hr) ho
 | arp k p off n b root m e o hr hs ho hle=>exact fun hk=>.arp _ p off n b root m e o ((hk k (by simp[AV.refs])).trans hr) hs ho hle
 | sl k p off len b root m e o hr hs ho hle=>exact fun hk=>.sl _ p off len b root m e o ((hk k (by simp[AV.refs])).trans hr) hs ho hle
 | slZ k p off b x root m e hr hs ho=>exact fun hk=>.slZ _ p off b x root m e ((hk k (by simp[AV.refs])).trans hr) hs ho
 | slNil k a hr=>exact fun hk=>.slNil _ a ((hk k (by simp[AV.refs])).trans hr)
 | slN k n b cap X hr hle hn=>exact fun hk=>.slN _ n b cap X ((hk k (by simp[AV.refs])).trans hr) hle hn
 | ptrN k i b cap X hr hi=>exact fun hk=>.ptrN _ i b cap X ((hk k (by simp[AV.refs])).trans hr) hi
 | lstE full sh a cap h=>exact fun _=>.lstE full sh a cap h
 | lst full sh l b off len cap c e fz hi hb hl hc hf hsh val hv hr ih =>
   intro _;by_cases h0:l=[]
   . subst h0;simp only[wU]at hl;subst hl;exact .lstE full sh _ cap fun h=>hf h
   . have himm':=himm (by unfold db;simpa using h0);exact .lst full sh l b off len cap c e fz (himm' _ hi) hb hl hc hf hsh val hv fun j hj=>(hr j hj).cut himm' hyl fun k hk=>by rw[cz l ((AV.wfp_iff l).2 fun x hx=>(hsh x hx).2) _ (wG hj)]at hk;cases hk
 | cp sh a b off c e fz hi hb hsh val hv hr ih =>intro _;have himm':=himm rfl;exact .cp sh a b off c e fz (himm' _ hi) hb hsh val hv fun j hj=>(hr j hj).cut himm' hyl fun k hk=>by rw[gb a hsh.2.1 hsh.2.2 _ (wG hj)]at hk;cases hk
 | fn v f caps vs he hn hsc val hv hr ih =>
   intro hk;have himm':=himm rfl;refine .fn v f (rAs ρ caps) vs he (by rw[bI];exact hn) (by rw[qk];exact hsc) val (fun i hi=>hv i (by rw[bI]at hi;exact hi)) fun i hi=> ?_
   have hi':i<caps.length:=by rw[bI]at hi;exact hi
   have:(rAs ρ caps)[i]=rA ρ caps[i]:=by simp[dz]
   rw[this];exact ih i hi' (fun _=>himm') fun k h=>hk k (by rw[AV.refs];exact bL (wG hi') h)
 | yld k b hr=>exact fun hk=>.yld _ b ((hk k (by simp[AV.refs])).trans hr)
 | mp k b hr=>exact fun hk=>.mp _ b ((hk k (by simp[AV.refs])).trans hr)
theorem RepV.renA {v:Value}{x:AV}{ρ:Nat->Nat}(h:RepV H G v x)(himm:db x=true\/∀b,G.imm b->G'.imm b)(hyl:∀i l,G.yl i=some l->G'.yl i=some l)
  (hk:∀k∈x.refs,G'.reg (ρ k)=G.reg k):RepV H G' v (rA ρ x):=by
 obtain⟨h1,h2,vs,h3,h4⟩:=h;refine⟨by rw[Ix];exact h1,Iu ρ x h2,vs,?_,by rw[pz (sn ρ x)];exact h4⟩;rw[qZ ρ x h2];refine⟨by rw[bI];exact h3.len,fun j a b=> ?_⟩;have b':j<x.flat.length:=by rw[bI]at b;exact b
 have e:(rAs ρ x.flat)[j]=rA ρ x.flat[j]:=by simp[dz]
 rw[e];refine(h3.get j a b').renA (fun hni=> ?_) hyl fun k h=>hk k (hJ x h2 _ (wG b') k h)
 rcases himm with h|h
 . rw[mY x h _ (wG b')]at hni;cases hni
 . exact h
theorem RepT.renA {v:Value}{x:AV}{ρ:Nat->Nat}(h:RepT H G v x)(himm:db x=true\/∀b,G.imm b->G'.imm b)(hyl:∀i l,G.yl i=some l->G'.yl i=some l)
  (hk:∀k∈x.refs,G'.reg (ρ k)=G.reg k):RepT H G' v (rA ρ x):=by
 cases x with
 | unk=>trivial
 | tup l =>
   obtain⟨vs,hv,hs,hr⟩:=h;refine⟨vs,hv,by rw[bI];exact hs,fun i a b=> ?_⟩;have b':i<l.length:=by rw[bI]at b;exact b
   have e:(rAs ρ l)[i]=rA ρ l[i]:=by simp[dz]
   rw[e];refine(hr i a b').renA (himm.imp (fun h=> ?_) id) hyl fun k h=>hk k (by rw[AV.refs];exact bL (wG b') h)
   rw[db]at h;exact mX h _ (wG b')
 | _=>exact RepV.renA h himm hyl hk
section
variable {H H':aT} {G G':Gh} {hp:Hp}
mutual
theorem so (ρ:Nat->Nat):∀(s:Sh) (a:AV),aD s (rA ρ a)=aD s a
 | .sc,a=>by simp only[aD];exact vE ρ a
 | .st fs,a=>by
   simp only[aD,sn]
   cases a with
   | aggR l=>simp only[rA,AV.kids];rw[vF ρ fs l]
   | _=>rfl
 | .ar n e,a=>by
   simp only[aD,sn]
   cases a with
   | aggR l=>simp only[rA,AV.kids,bI];rw[vG ρ e l]
   | _=>rfl
theorem vF (ρ:Nat->Nat):∀(fs:List Sh) (l:List AV),bh fs (rAs ρ l)=bh fs l
 | [],[]=>rfl
 | s::fs,a::l=>by rw[rAs,bh,bh,so ρ s a,vF ρ fs l]
 | [],_::_=>rfl
 | _::_,[]=>rfl
theorem vG (ρ:Nat->Nat):∀(e:Sh) (l:List AV),(rAs ρ l).all (aD e)=l.all (aD e)
 | _,[]=>rfl
 | e,a::l=>by rw[rAs,w2,w2,so ρ e a,vG ρ e l]
end
theorem Ik {c:Array Value}{off:Nat}{l:List AV}{ρ:Nat->Nat}(h:RepC H G c off l)(himm:∀b,G.imm b->G'.imm b)(hyl:∀i l,G.yl i=some l->G'.yl i=some l)
  (hk:∀x∈l,∀k∈x.refs,G'.reg (ρ k)=G.reg k):RepC H G' c off (rAs ρ l):=by
 intro j hj;have hj':j<l.length:=by rw[bI]at hj;exact hj
 obtain⟨v,hv,hr⟩:=h j hj';refine⟨v,hv,?_⟩;have e:(rAs ρ l)[j]=rA ρ l[j]:=by simp[dz]
 rw[e];exact hr.renA (fun _=>himm) hyl (hk _ (wG hj'))
theorem oa (ρ:Nat->Nat):∀l:List NE,kq ρ l=l.map (rNE ρ)
 | []=>rfl
 | e::l=>by rw[kq,oa ρ l];rfl
theorem n9 {ρ:Nat->Nat}{els:List NE}{i:Nat}{l:List AV}:(kq ρ els)[i]? =some (NE.own l)↔els[i]? =some (NE.own l):=by
 rw[oa,wb]
 cases els[i]? with
 | none=>simp
 | some e=>cases e<;>simp[rNE]
theorem M5 {ρ:Nat->Nat}{els:List NE}{i k m:Nat}(h:(kq ρ els)[i]? =some (NE.nm k m)):∃k0,els[i]? =some (NE.nm k0 m)/\ρ k0=k:=by
 rw[oa,wb]at h
 cases he:els[i]? with
 | none=>simp[he]at h
 | some e=>rw[he]at h;cases e<;>simp[rNE]at h;exact⟨_,by rw[h.2],h.1⟩
theorem NestC.ren {ρ:Nat->Nat}{b:Nat}{X:Nat->Prop}{c:Array Value}{els:List NE}{B:Nat->Nat}(h:NestC H G b X c els B)(himm:∀b,G.imm b->G'.imm b)(hyl:∀i l,G.yl i=some l->G'.yl i=some l)
  (hk:∀j∈dE els,G'.reg (ρ j)=G.reg j):NestC H G' b X c (kq ρ els) B where
 x y:=by rw[h.x];simp only[n9]
 own i l hi:=by obtain⟨h1,h2,cp,h3,h4⟩:=h.own i l (n9.1 hi);exact⟨h1,h2,cp,h3,h4.cut himm hyl⟩
 inj i j l l' hi hj:=h.inj i j l l' (n9.1 hi) (n9.1 hj)
 nm i k m hi:=by
  obtain⟨k0,h0,rfl⟩:=M5 hi;obtain⟨v,h1,h2⟩:=h.nm i k0 m h0;exact⟨v,h1,h2.renA (fun _=>himm) hyl fun q hq=>by
   simp only[AV.refs,wF]at hq;subst hq;exact hk _ (mZ h0)⟩
theorem kV {k k':Nat}{o:OB}{ρ:Nat->Nat}(h:ObOk H G k o)(hreg:G'.reg k'=G.reg k)(himm:∀b,G.imm b->G'.imm b)(hyl:∀i l,G.yl i=some l->G'.yl i=some l)
  (hk:∀j∈bO o,G'.reg (ρ j)=G.reg j):ObOk H G' k' (rOB ρ o):=by
 cases o with
 | fix sh a =>obtain⟨b,c,e,fz,h1,h2,h3,h4,h5,h6,h7⟩:=h;refine⟨b,c,e,fz,hreg.trans h1,h2,h3,h4,by rw[so];exact h5,Iu ρ a h6,?_⟩;rw[qZ ρ a h6];exact Ik h7 himm hyl fun x hx j hj=>hk j (hJ a h6 x hx j hj)
 | grow sh els =>
   rcases h with ⟨h1,h2⟩|⟨b,cap,c,e,fz,h1,h2,h3,h4,h5,h6,h7⟩
   . exact .inl ⟨h1,hreg.trans h2⟩
   . refine .inr ⟨b,cap,c,e,fz,hreg.trans h1,h2,h3,h4,h5,h6,fun j hj=> ?_⟩;obtain⟨v,hv,hr⟩:=h7 j hj;exact⟨v,hv,hr.cut himm hyl fun q hq=>by rw[cz els ((AV.wfp_iff els).2 fun y hy=>(h6 y hy).2) _ (wG hj)]at hq;cases hq⟩
 | dead=>obtain⟨r,hr⟩:=h;exact⟨r,hreg.trans hr⟩
 | lp rid vals s =>
   obtain⟨b,rc,info,h1,h2,h3,h4,h5⟩:=h;refine⟨b,rc,info,hreg.trans h1,h2,hyl _ _ h3,h4,by rw[bI];exact h5.len,fun j hj=> ?_⟩;have hj':j<vals.length:=by rw[bI]at hj;exact hj
   have e:(rAs ρ vals)[j]=rA ρ vals[j]:=by simp[dz]
   rw[e];exact(h5.get j hj').renA (.inr himm) hyl fun q hq=>hk q (bL (wG hj') hq)
 | mp es c=>obtain⟨b,h1,h2,h3⟩:=h;exact⟨b,hreg.trans h1,h2,h3⟩
 | nest els=>obtain⟨b,cap,X,c,e,fz,B,h1,h2,h3,h4,h5,h6⟩:=h;exact⟨b,cap,X,c,e,fz,B,hreg.trans h1,by rw[oa,wh];exact h2,h3,h4,h5,h6.ren himm hyl hk⟩
theorem jf {ρ:Nat->Nat}{o:OB}(h:rOB ρ o≠.dead):o≠.dead:=fun e=>h (by rw[e];rfl)
end
end
section
variable {H :aT} {G:Gh} {st st1 acc:St} {tmps:Array Value}
theorem dJ :∀{l:List Nat},dR l=true↔l.Nodup
 | []=>by simp[dR]
 | a::l=>by simp[dR,dJ (l:=l)]
def FromHp (st:St)(ks:List Kp)(k:Nat)(o:OB):Prop :=
 (Kp.key k∈ks/\st.hp.get k=some o) \/
 ∃i sh,Kp.own i k sh∈ks/\((∃k' n els,st.fr.get i= .sl k' [] 0 n/\st.hp.get k'=some (.grow sh els)/\o= .grow sh els)\/((∃sh0,st.fr.get i= .lst true sh0 [])/\o= .grow sh []))
def FromFr (st:St)(ks:List Kp)(i:Nat)(a:AV):Prop :=
 (Kp.slot i∈ks/\a=st.fr.get i) \/
 ∃k sh,Kp.own i k sh∈ks/\((∃k' n els,st.fr.get i= .sl k' [] 0 n/\st.hp.get k'=some (.grow sh els)/\n=els.length/\a= .sl k [] 0 n)\/((∃sh0,st.fr.get i= .lst true sh0 [])/\a= .sl k [] 0 0))
theorem Cq {x:Kp}(h:gJ st acc x=some st1) :
  (∀k o,st1.hp.get k=some o->acc.hp.get k=some o\/FromHp st [x] k o)/\(∀i,st1.fr.get i=acc.fr.get i\/FromFr st [x] i (st1.fr.get i)) /\
  (∀k,acc.hp.get k≠none->st1.hp.get k≠none)/\(∀k∈Kp.keys [x]++Kp.owns [x],st1.hp.get k≠none):=by
 cases x with
 | mv q p k=>simp[gJ]at h
 | fam q b=>simp[gJ]at h
 | frz q p=>simp[gJ]at h
 | nst a b=>simp[gJ]at h
 | frs i=>simp[gJ]at h
 | slot i =>
   simp only[gJ,WG]at h;subst h;refine⟨fun k o h=>.inl h,fun j=> ?_,fun k h=>h,fun k hk=>by simp[Kp.keys,Kp.owns]at hk⟩;by_cases hj:i=j
   . subst hj;exact .inr (.inl ⟨by simp,by simp[Fr.get]⟩)
   . left;simp[Fr.get,hj]
 | key k =>
   simp only[gJ]at h;split at h
   . rename_i o ho;cases h;refine⟨fun j o' hj=> ?_,fun j=>.inl rfl,fun j hj=> ?_,fun j hj=> ?_⟩
     . rw[Hp.get_cons]at hj;by_cases hk:k=j
       . subst hk;simp only[if_true,WG]at hj;subst hj;exact .inr (.inl ⟨by simp,ho⟩)
       . simp only[hk,if_false]at hj;exact .inl hj
     . rw[Hp.get_cons];split
       . simp
       . exact hj
     . simp only[Kp.keys,Kp.owns,wj,wF]at hj;subst hj;simp[Hp.get_cons]
   . cases h
 | own i k sh =>
   simp only[gJ]at h;split at h
   . rename_i k' n hfr;split at h
     . rename_i sh' els hk';rw[WJ,wx,decide_eq_true_eq]at h;obtain⟨⟨hb,hn⟩,h⟩:=h;have hb:=Sh.beq_eq hb;subst hb;cases h;refine⟨fun j o' hj=> ?_,fun j=> ?_,fun j hj=> ?_,fun j hj=> ?_⟩
       . rw[Hp.get_cons]at hj;by_cases hk:k=j
         . subst hk;simp only[if_true,WG]at hj;subst hj;exact .inr (.inr ⟨i,sh,by simp,.inl ⟨k',n,els,hfr,hk',rfl⟩⟩)
         . simp only[hk,if_false]at hj;exact .inl hj
       . by_cases hij:i=j
         . subst hij;exact .inr (.inr ⟨k,sh,by simp,.inl ⟨k',n,els,hfr,hk',hn,by simp[Fr.get]⟩⟩)
         . left;simp[Fr.get,hij]
       . rw[Hp.get_cons];split
         . simp
         . exact hj
       . simp only[Kp.keys,Kp.owns,wg,wF]at hj;subst hj;simp[Hp.get_cons]
     . cases h
   . rename_i sh0 hfr;cases h;refine⟨fun j o' hj=> ?_,fun j=> ?_,fun j hj=> ?_,fun j hj=> ?_⟩
     . rw[Hp.get_cons]at hj;by_cases hk:k=j
       . subst hk;simp only[if_true,WG]at hj;subst hj;exact .inr (.inr ⟨i,sh,by simp,.inr ⟨⟨sh0,hfr⟩,rfl⟩⟩)
       . simp only[hk,if_false]at hj;exact .inl hj
     . by_cases hij:i=j
       . subst hij;exact .inr (.inr ⟨k,sh,by simp,.inr ⟨⟨sh0,hfr⟩,by simp[Fr.get]⟩⟩)
       . left;simp[Fr.get,hij]
     . rw[Hp.get_cons];split
       . simp
       . exact hj
     . simp only[Kp.keys,Kp.owns,wg,wF]at hj;subst hj;simp[Hp.get_cons]
   . cases h
theorem FromHp.mono {ks ks':List Kp}{k:Nat}{o:OB}(h:FromHp st ks k o)(hs:∀x∈ks,x∈ks'):FromHp st ks' k o:=by
 rcases h with ⟨h1,h2⟩|⟨i,sh,h1,h2⟩
 . exact .inl ⟨hs _ h1,h2⟩
 . exact .inr ⟨i,sh,hs _ h1,h2⟩
theorem FromFr.mono {ks ks':List Kp}{i:Nat}{a:AV}(h:FromFr st ks i a)(hs:∀x∈ks,x∈ks'):FromFr st ks' i a:=by
 rcases h with ⟨h1,h2⟩|⟨k,sh,h1,h2⟩
 . exact .inl ⟨hs _ h1,h2⟩
 . exact .inr ⟨k,sh,hs _ h1,h2⟩
theorem FH (x:Kp)(l:List Kp)(k:Nat):k∈Kp.keys (x::l)++Kp.owns (x::l)↔k∈Kp.keys [x]++Kp.owns [x]\/k∈Kp.keys l++Kp.owns l:=by cases x<;>simp[Kp.keys,Kp.owns,or_assoc,or_left_comm]
theorem tq :∀{ks:List Kp} {acc:St},eU st ks acc=some st1 ->
  (∀k o,st1.hp.get k=some o->acc.hp.get k=some o\/FromHp st ks k o)/\(∀i,st1.fr.get i=acc.fr.get i\/FromFr st ks i (st1.fr.get i)) /\
  (∀k,acc.hp.get k≠none->st1.hp.get k≠none)/\(∀k∈Kp.keys ks++Kp.owns ks,st1.hp.get k≠none)
 | [],acc,h=>by simp only[eU,WG]at h;subst h;exact⟨fun k o h=>.inl h,fun i=>.inl rfl,fun k h=>h,fun k hk=>by simp[Kp.keys,Kp.owns]at hk⟩
 | x::l,acc,h=>by
   simp only[eU,WF]at h;obtain⟨a2,h1,h2⟩:=h;obtain⟨p1,p2,p3,p4⟩:=Cq h1;obtain⟨q1,q2,q3,q4⟩:=tq h2;have hx:∀y∈[x],y∈x::l:=fun y hy=>by simp at hy;simp[hy]
   have hl:∀y∈l,y∈x::l:=fun y hy=>by simp[hy]
   refine⟨fun k o hk=> ?_,fun i=> ?_,fun k hk=>q3 k (p3 k hk),fun k hk=> ?_⟩
   . rcases q1 k o hk with h|h
     . exact(p1 k o h).imp id (·.mono hx)
     . exact .inr (h.mono hl)
   . rcases q2 i with h|h
     . rcases p2 i with h'|h'
       . exact .inl (h.trans h')
       . rw[h];exact .inr (h'.mono hx)
     . exact .inr (h.mono hl)
   . rcases(FH x l k).1 hk with h|h
     . exact q3 k (p4 k h)
     . exact q4 k h
def sB :List Kp->Nat->Option Nat
 | [],_=>none
 | .own i k _::l,j=>if k=j then some i else sB l j
 | _::l,j=>sB l j
theorem oi {ks:List Kp}{i k:Nat}{sh:Sh}(h:Kp.own i k sh∈ks):k∈Kp.owns ks:=by
 induction ks with
 | nil=>cases h
 | cons x l ih =>
   rcases wH.1 h with rfl|h'
   . simp[Kp.owns]
   . cases x<;>simp[Kp.owns,ih h']
theorem sQ {ks:List Kp}{k:Nat}:Kp.key k∈ks↔k∈Kp.keys ks:=by
 induction ks with
 | nil=>simp[Kp.keys]
 | cons x l ih=>cases x<;>simp[Kp.keys,ih]
theorem Ap {ks:List Kp}(hn:(Kp.owns ks).Nodup){i k:Nat}{sh:Sh}(h:Kp.own i k sh∈ks):sB ks k=some i:=by
 induction ks with
 | nil=>cases h
 | cons x l ih =>
   rcases wH.1 h with rfl|h'
   . simp[sB]
   . cases x with
     | own i' k' sh' =>
       simp only[Kp.owns,wS]at hn;have hne:k'≠k:=fun e=>hn.1 (e▸oi h')
       simp only[sB,hne,if_false];exact ih hn.2 h'
     | _=>exact ih hn h'
theorem Aq {ks:List Kp}{i k:Nat}(h:sB ks k=some i):∃sh,Kp.own i k sh∈ks:=by
 induction ks with
 | nil=>cases h
 | cons x l ih =>
   cases x with
   | own i' k' sh' =>
     simp only[sB]at h;split at h
     . rename_i hk;cases h;subst hk;exact⟨sh',by simp⟩
     . obtain⟨sh,h⟩:=ih h;exact⟨sh,by simp[h]⟩
   | _=>obtain⟨sh,h⟩:=ih h;exact⟨sh,by simp[h]⟩
theorem jM {ks:List Kp}{i k k' n:Nat}{sh:Sh}{p:List Nat}{off:Nat}(h:Kp.own i k sh∈ks)(hf:st.fr.get i= .sl k' p off n):k'∈Kp.ownSrc st ks:=by
 induction ks with
 | nil=>cases h
 | cons x l ih =>
   rcases wH.1 h with rfl|h'
   . simp[Kp.ownSrc,hf]
   . cases x<;>simp[Kp.ownSrc,ih h']
theorem Cd {ks:List Kp}(hn:(Kp.ownSrc st ks).Nodup){i1 i2 k1 k2 k' n1 n2:Nat}{s1 s2:Sh}{p1 p2:List Nat}{o1 o2:Nat}(h1:Kp.own i1 k1 s1∈ks)(h2:Kp.own i2 k2 s2∈ks)
  (f1:st.fr.get i1= .sl k' p1 o1 n1) (f2:st.fr.get i2= .sl k' p2 o2 n2):k1=k2:=by
 induction ks with
 | nil=>cases h1
 | cons x l ih =>
   have hl:(Kp.ownSrc st l).Nodup:=by
    cases x with
    | own i k sh=>simp only[Kp.ownSrc]at hn;exact(wQ.1 hn).2.1
    | _=>exact hn
   rcases wH.1 h1 with e1|h1'
   . rcases wH.1 h2 with e2|h2'
     . rw[<-e1]at e2;cases e2;rfl
     . subst e1;simp only[Kp.ownSrc,f1,w5,wS]at hn;exact absurd (jM h2' f2) hn.1
   . rcases wH.1 h2 with e2|h2'
     . subst e2;simp only[Kp.ownSrc,f2,w5,wS]at hn;exact absurd (jM h1' f1) hn.1
     . exact ih hl h1' h2'
theorem uL {ks:List Kp}{i:Nat}(h:Kp.slot i∈ks):∀k∈(st.fr.get i).refs,k∈Kp.slotRefs st ks:=by
 induction ks with
 | nil=>cases h
 | cons x l ih =>
   intro k hk;rcases wH.1 h with rfl|h'
   . simp[Kp.slotRefs,hk]
   . cases x<;>simp[Kp.slotRefs,ih h' k hk]
theorem xH {ks:List Kp}{j:Nat}{o:OB}(h:Kp.key j∈ks)(hj:st.hp.get j=some o):∀k∈bO o,k∈Kp.slotRefs st ks:=by
 induction ks with
 | nil=>cases h
 | cons x l ih =>
   intro k hk;rcases wH.1 h with rfl|h'
   . simp[Kp.slotRefs,hj,er,hk]
   . cases x<;>simp[Kp.slotRefs,ih h' k hk]
open Classical in
noncomputable def jq (G:Gh)(st:St)(ks:List Kp)(k:Nat):Option Rg :=
 if k∈Kp.keys ks then G.reg k else
 match sB ks k with
 | some i=>(match st.fr.get i with| .sl k' _ _ _=>G.reg k'|_=>some .nil)
 | none=>none
open Classical in
noncomputable def iB (st:St)(ks:List Kp)(k:Nat):Nat :=
 if k∈Kp.keys ks then k else
 match sB ks k with
 | some i=>(match st.fr.get i with| .sl k' _ _ _=>k'|_=>k)
 | none=>k
noncomputable def eJ (G:Gh)(st:St)(ks:List Kp):Gh:={G with reg:=jq G st ks}
theorem GS {ks:List Kp}(hst:StOk H G st tmps)(h:pW ks st=some st1):StOk H (eJ G st ks) st1 tmps/\Move H G st.hp H (eJ G st ks) st1.hp:=by
 unfold pW at h;rw[WJ,wx,wx,dJ,dJ,wJ]at h;obtain⟨⟨⟨hn1,hn2⟩,hrefs⟩,h⟩:=h;obtain⟨q1,q2,_,q4⟩:=tq h;have hn1':=wQ.1 hn1;have hn2':=wQ.1 hn2;have hkey:∀k,k∈Kp.keys ks->(eJ G st ks).reg k=G.reg k/\iB st ks k=k:=fun k hk=>by simp[eJ,jq,iB,hk]
 have hnk:∀{i k sh},Kp.own i k sh∈ks->k∉Kp.keys ks:=fun{i k sh} ho hk=>hn1'.2.2 k hk k (oi ho) rfl
 have hown:∀{i k k' n sh p off},Kp.own i k sh∈ks->st.fr.get i= .sl k' p off n->(eJ G st ks).reg k=G.reg k'/\iB st ks k=k':=fun{i k k' n sh p off} ho hf=>by have h1:=hnk ho;have h2:=Ap hn1'.2.1 ho;simp[eJ,jq,iB,h1,h2,hf]
 have hnil:∀{i k sh sh0 l},Kp.own i k sh∈ks->st.fr.get i= .lst true sh0 l->(eJ G st ks).reg k=some .nil:=fun{i k sh sh0 l} ho hf=>by have h1:=hnk ho;have h2:=Ap hn1'.2.1 ho;simp[eJ,jq,h1,h2,hf]
 have hrefs':∀k∈Kp.slotRefs st ks,k∈Kp.keys ks:=fun k hk=>by simpa using hrefs k hk
 have q1':∀k o,st1.hp.get k=some o->FromHp st ks k o:=fun k o hk=>by
  rcases q1 k o hk with h|h
  . simp[Hp.get]at h
  . exact h
 obtain⟨hinv,hlive⟩:=El (G':=eJ G st ks) (hp':=st1.hp) hst.inv (iB st ks) (fun b=>Iff.rfl) (fun i l h=>h)
  (fun k o hk=>by
    rcases q1' k o hk with ⟨h1,h2⟩|⟨i,sh,ho,⟨k',n,els,hf,hk',rfl⟩|⟨⟨sh0,hf⟩,rfl⟩⟩
    . have hm:=sQ.1 h1;obtain⟨e1,e2⟩:=hkey k hm;left;refine⟨by rw[e2];exact h2,by rw[e1,e2],fun j hj=> ?_⟩;exact(hkey j (hrefs' j (xH h1 h2 j hj))).1
    . obtain⟨e1,e2⟩:=hown ho hf;left;exact⟨by rw[e2];exact hk',by rw[e1,e2],fun j hj=>by cases hj⟩
    . exact .inr ⟨sh,rfl,hnil ho hf⟩)
  (fun k hk=>by
    have h1:k∉Kp.keys ks:=fun h=>q4 k (List.mem_append_left _ h) hk
    have h2:sB ks k=none:=by
     cases hi:sB ks k with
     | none=>rfl
     | some i=>obtain⟨sh,hm⟩:=Aq hi;exact absurd hk (q4 k (wW _ (oi hm)))
    simp[eJ,jq,h1,h2])
  (fun k k' b r r' hk hk' hr hr' he=>by
    have cases':∀k r,aN st1.hp k->(eJ G st ks).At k b r->(k∈Kp.keys ks/\iB st ks k=k)\/∃i sh k2 n p off,Kp.own i k sh∈ks/\st.fr.get i= .sl k2 p off n/\iB st ks k=k2:=by
     rintro k r ⟨o,ho,_⟩ hr;rcases q1' k o ho with ⟨h1,h2⟩|⟨i,sh,ho,⟨k2,n,els,hf,hk',_⟩|⟨⟨sh0,hf⟩,_⟩⟩
     . exact .inl ⟨sQ.1 h1,(hkey k (sQ.1 h1)).2⟩
     . exact .inr ⟨i,sh,k2,n,[],0,ho,hf,(hown ho hf).2⟩
     . obtain⟨q,hq,hat⟩:=hr;rw[hnil ho hf]at hq;cases hq;exact hat.elim
    rcases cases' k r hk hr with ⟨m1,e1⟩|⟨i1,s1,a1,n1,p1,o1,ho1,hf1,e1⟩
    . rcases cases' k' r' hk' hr' with ⟨m2,e2⟩|⟨i2,s2,a2,n2,p2,o2,ho2,hf2,e2⟩
      . rw[e1,e2]at he;exact he
      . exfalso;rw[e1,e2]at he;subst he;exact hn2'.2.2 k m1 k (jM ho2 hf2) rfl
    . rcases cases' k' r' hk' hr' with ⟨m2,e2⟩|⟨i2,s2,a2,n2,p2,o2,ho2,hf2,e2⟩
      . exfalso;rw[e1,e2]at he;subst he;exact hn2'.2.2 _ m2 _ (jM ho1 hf1) rfl
      . rw[e1,e2]at he;subst he;exact Cd hn2'.2.1 ho1 ho2 hf1 hf2)
 refine⟨⟨hinv,fun i=> ?_⟩,⟨hinv,wo _,fun b hb=>⟨hb,rfl⟩,fun i l h=>h,fun b _ _=>rfl,fun b hb=>.inl (hlive b hb),fun b hb=>.inl hb⟩⟩;rcases q2 i with h|⟨hm,h⟩|⟨k,sh,ho,⟨k',n,els,hf,hk',hlen,h⟩|⟨⟨sh0,hf⟩,h⟩⟩
 . rw[h];simp only[Fr.get];trivial
 . rw[h];exact(hst.fr i).cut (fun b h=>h) (fun i l h=>h) fun k hk=>(hkey k (hrefs' k (uL hm k hk))).1
 . rw[h];have hr:=hst.fr i;rw[hf,aq rfl]at hr;rw[aq rfl];obtain⟨e1,_⟩:=hown ho hf;generalize tmps.getD i undef=v at hr ⊢
   cases hr with
   | sl _ _ _ _ b root m e o hr hs ho hle=>exact .sl k [] 0 n b root m e o (e1.trans hr) hs ho hle
   | slZ _ _ _ b x root m e hr hs ho=>exact .slZ k [] 0 b x root m e (e1.trans hr) hs ho
   | slNil _ a hr=>exact .slNil k a (e1.trans hr)
   | slN _ _ b cap X hr hle hn=>exact absurd hr (hst.inv.noN hk' trivial _ _ _)
 . rw[h];have hr:=hst.fr i;rw[hf,aq rfl]at hr;rw[aq rfl];have e1:=hnil ho hf;obtain⟨b,cap,he,_,hc,_,_⟩:=eh hr;have:=hc rfl;simp only[wU]at this he;subst this;rw[he];exact .slNil k b e1
theorem jl :∀{ks:List Kp},eM ks=true->∀k∈Kp.owns ks,k<SHK
 | [],_,k,h=>by cases h
 | x::l,hl,k,h=>by
   cases x with
   | own j q sh =>
     simp only[eM,wx,decide_eq_true_eq]at hl;simp only[Kp.owns,wH]at h;rcases h with rfl|h
     . exact hl.1
     . exact jl hl.2 k h
   | frz q p =>simp only[eM,wx,decide_eq_true_eq]at hl;exact jl hl.2 k (by simpa[Kp.owns]using h)
   | nst a b =>simp only[eM,wx,decide_eq_true_eq]at hl;exact jl hl.2 k (by simpa[Kp.owns]using h)
   | _=>exact jl (by simpa[eM]using hl) k (by simpa[Kp.owns]using h)
theorem vJ :∀{n i:Nat} {hp:Hp},Kp.owns (js hp n i)=[]
 | 0,i,hp=>rfl
 | n+1,i,hp=>by
   rw[js];split
   . exact vJ (n:=n) (i:=i+1)
   . rfl
theorem qn :∀{a b:List Kp},Kp.owns (a++b)=Kp.owns a++Kp.owns b
 | [],b=>rfl
 | x::a,b=>by cases x<;>simp[Kp.owns,qn (a:=a) (b:=b)]
theorem Bp {ks:List Kp}(hk:eM ks=true){q:Nat}(hq:SHK<=q){r:Rg}(h:(eJ G st (ksA ks st)).reg q=some r):G.reg q=some r:=by
 simp only[eJ,jq]at h;split at h
 . exact h
 . split at h
   . rename_i i hi;exfalso;obtain⟨sh,this⟩:=Aq hi;have this:=oi this;unfold ksA at this;rw[qn,vJ,wj]at this;exact absurd (jl hk q this) (Nat.not_lt.2 hq)
   . cases h
theorem tg :∀{ps:List (Nat×Nat)} {l:List Kp},eM (dS ps++l)=eM l
 | [],l=>rfl
 | p::ps,l=>by
   show eM (.key p.1::(dS ps++l))=_;rw[eM]
   . exact tg
   all_goals (intros;contradiction)
theorem gT {hp:Hp}:∀{ks:List Kp},eM ks=true->eM (fC hp ks)=true
 | [],_=>rfl
 | x::l,h=>by
   cases x with
   | own i k sh =>simp only[eM,wx]at h;simp only[fC,eM,wx];exact⟨h.1,gT h.2⟩
   | mv q p k =>
     have ih:=gT (hp:=hp) (ks:=l) (by simpa[eM]using h);simp only[fC]
     cases pX hp q p with
     | none=>exact ih
     | some j=>simpa[Jv,eM]using ih
   | fam q b =>simp only[fC];rw[tg];exact gT (hp:=hp) (ks:=l) (by simpa[eM]using h)
   | frz q p =>simp only[eM,wx]at h;exact gT (hp:=hp) (ks:=l) h.2
   | frs i=>exact gT (hp:=hp) (ks:=l) (by simpa[eM]using h)
   | nst a b =>
     simp only[eM,wx]at h;have ih:=gT (hp:=hp) (ks:=l) h.2;simp only[fC]
     cases jj hp a b with
     | none=>exact ih
     | some j=>simpa[Jv,eM]using ih
   | slot i=>simpa[fC,eM]using gT (hp:=hp) (ks:=l) (by simpa[eM]using h)
   | key i=>simpa[fC,eM]using gT (hp:=hp) (ks:=l) (by simpa[eM]using h)
theorem zK (k q j:Nat):sw k q (sw k q j)=j:=by
  unfold sw;repeat' split
  all_goals omega
theorem Hy {k q i j:Nat}(h:sw k q i=sw k q j):i=j:=by rw[<-zK k q i,h,zK]
theorem r7 {k q i:Nat}:∀(fr:Fr),Fr.get (qI k q fr) i=rA (sw k q) (Fr.get fr i)
 | []=>rfl
 | .set j v::r=>by
   simp only[qI,Fr.get];split
   . rfl
   . exact r7 r
 | .clr a b::r=>by
   simp only[qI,Fr.get];split
   . rfl
   . exact r7 r
theorem r6 {k q:Nat}:∀(hp:Hp) (j:Nat),Hp.get (jd k q hp) (sw k q j)=(Hp.get hp j).map (rOB (sw k q))
 | [],j=>rfl
 | (i,o)::r,j=>by
   rw[jd,Hp.get_cons,Hp.get_cons];by_cases h:i=j
   . subst h;simp
   . rw[if_neg (fun e=>h (Hy e)),if_neg h];exact r6 r j
def BO (G:Gh)(k q:Nat):Gh:={G with reg:=fun j=>G.reg (sw k q j)}
theorem zL {k q j:Nat}:(BO G k q).reg (sw k q j)=G.reg j:=by simp[BO,zK]
theorem Pg {hp:Hp}{k q j:Nat}{o:OB}(h:Hp.get (jd k q hp) j=some o):∃o',Hp.get hp (sw k q j)=some o'/\o=rOB (sw k q) o':=by
 have:=r6 (k:=k) (q:=q) hp (sw k q j);rw[zK,h]at this
 cases hg:Hp.get hp (sw k q j)with
 | none=>rw[hg]at this;cases this
 | some o'=>rw[hg]at this;exact⟨o',rfl,by simpa using this⟩
theorem xO {hp:Hp}{k q j:Nat}(h:aN (jd k q hp) j):aN hp (sw k q j):=by obtain⟨o,ho,hd⟩:=h;obtain⟨o',h1,rfl⟩:=Pg ho;exact⟨o',h1,jf hd⟩
theorem HZ {k q j b:Nat}{r:Sh}(h:(BO G k q).At j b r):G.At (sw k q j) b r:=h
theorem xQ {hp:Hp}{k q b:Nat}(h:bG (BO G k q) (jd k q hp) b):bG G hp b:=by obtain⟨j,r,h2,h1⟩:=h;exact⟨sw k q j,r,xO h2,HZ h1⟩
theorem HY {hp:Hp}(inv:Inv H G hp)(k q:Nat):Inv H (BO G k q) (jd k q hp) where
 obs j o h:=by obtain⟨o',h1,rfl⟩:=Pg h;exact kV (inv.obs _ o' h1) rfl (fun _ h=>h) (fun _ _ h=>h) fun _ _=>zL
 out j h:=by
  have:=r6 (k:=k) (q:=q) hp (sw k q j);rw[zK,h]at this;exact inv.out _ (by cases hg:Hp.get hp (sw k q j)with
   | none=>rfl
   | some o=>rw[hg]at this;cases this)
 dist j j' b r r' h h' hl hl':=Hy (inv.dist _ _ b r r' (HZ h) (HZ h') (xO hl) (xO hl'))
 imm b hb:=⟨(inv.imm b hb).1,fun hl=>(inv.imm b hb).2 (xQ hl)⟩
 lt b hb:=inv.lt b (xQ hb)
theorem UM (hst:StOk H G st tmps)(k q:Nat):StOk H (BO G k q) {fr:=qI k q st.fr,hp:=jd k q st.hp} tmps/\Move H G st.hp H (BO G k q) (jd k q st.hp) :=
 ⟨⟨HY hst.inv k q,fun i=>by
   show RepT H _ _ (Fr.get (qI k q st.fr) i);rw[r7];exact(hst.fr i).renA (.inr fun _ h=>h) (fun _ _ h=>h) fun _ _=>zL⟩,
  ⟨HY hst.inv k q,wo _,fun b hb=>⟨hb,rfl⟩,fun i l h=>h,fun b _ _=>rfl,fun b hb=>.inl (xQ hb),fun b hb=>.inl hb⟩⟩
theorem B2 {G:Gh}{st st1:St}{k:Nat}{c:Option Nat}(hst:StOk H G st tmps)(h1:rn1 k st c=some st1) :
  ∃G2,StOk H G2 st1 tmps/\Move H G st.hp H G2 st1.hp/\∀q,SHK<=q->G2.reg q=G.reg q:=by
 cases c with
 | none=>simp only[rn1,WG]at h1;subst h1;exact⟨G,hst,Move.refl hst.inv,fun _ _=>rfl⟩
 | some j =>
   simp only[rn1]at h1;split at h1
   . cases h1;exact⟨G,hst,Move.refl hst.inv,fun _ _=>rfl⟩
   . split at h1
     . rename_i hlt;cases h1;obtain⟨a1,a2⟩:=UM hst j k;refine⟨_,a1,a2,fun i hi=> ?_⟩;show G.reg (sw j k i)=G.reg i;rw[sw,if_neg (by omega),if_neg (by omega)]
     . cases h1
theorem Af :∀{ps:List (Nat×Nat)} {G:Gh} {st st1:St},StOk H G st tmps->iK ps st=some st1 ->
  ∃G2,StOk H G2 st1 tmps/\Move H G st.hp H G2 st1.hp/\∀q,SHK<=q->G2.reg q=G.reg q
 | [],G,st,st1,hst,h=>by simp only[iK,WG]at h;subst h;exact⟨G,hst,Move.refl hst.inv,fun _ _=>rfl⟩
 | p::l,G,st,st1,hst,h=>by simp only[iK,WF]at h;obtain⟨st2,h1,h2⟩:=h;obtain⟨G2,a1,a2,a3⟩:=B2 hst h1;obtain⟨G3,b1,b2,b3⟩:=Af a1 h2;exact⟨G3,b1,a2.trans b2,fun i hi=>(b3 i hi).trans (a3 i hi)⟩
theorem gL {hp0:Hp}:∀{ks:List Kp} {G:Gh} {st st1:St},StOk H G st tmps->fN hp0 ks st=some st1 ->
  ∃G2,StOk H G2 st1 tmps/\Move H G st.hp H G2 st1.hp/\∀q,SHK<=q->G2.reg q=G.reg q
 | [],G,st,st1,hst,h=>by simp only[fN,WG]at h;subst h;exact⟨G,hst,Move.refl hst.inv,fun _ _=>rfl⟩
 | x::l,G,st,st1,hst,h=>by
   cases x with
   | mv q p k =>simp only[fN,WF]at h;obtain⟨st2,h1,h2⟩:=h;obtain⟨G2,a1,a2,a3⟩:=B2 hst h1;obtain⟨G3,b1,b2,b3⟩:=gL a1 h2;exact⟨G3,b1,a2.trans b2,fun i hi=>(b3 i hi).trans (a3 i hi)⟩
   | nst a b =>simp only[fN,WF]at h;obtain⟨st2,h1,h2⟩:=h;obtain⟨G2,a1,a2,a3⟩:=B2 hst h1;obtain⟨G3,b1,b2,b3⟩:=gL a1 h2;exact⟨G3,b1,a2.trans b2,fun i hi=>(b3 i hi).trans (a3 i hi)⟩
   | fam q b =>simp only[fN,WF]at h;obtain⟨st2,h1,h2⟩:=h;obtain⟨G2,a1,a2,a3⟩:=Af hst h1;obtain⟨G3,b1,b2,b3⟩:=gL a1 h2;exact⟨G3,b1,a2.trans b2,fun i hi=>(b3 i hi).trans (a3 i hi)⟩
   | frz q p=>exact gL hst (by simpa[fN]using h)
   | frs q=>exact gL hst (by simpa[fN]using h)
   | slot i=>exact gL hst (by simpa[fN]using h)
   | key i=>exact gL hst (by simpa[fN]using h)
   | own i j sh=>exact gL hst (by simpa[fN]using h)
def nf (G:Gh)(K:List Nat):Gh:={G with imm:=fun b=>G.imm b\/∃k,k∈K/\∃r,G.At k b r}
theorem iP (H:aT)(G:Gh)(K:List Nat):Le H G H (nf G K):=⟨fun b hb=>⟨.inl hb,rfl⟩,fv fun _ _ h=>h,fun _ _ h=>h⟩
theorem dx {hp:Hp}{K:List Nat}{j:Nat}(h:aN (ct K++hp) j):j∉K/\aN hp j:=by
 obtain⟨o,h1,h2⟩:=h;rw[cQ]at h1;split at h1
 . cases h1;exact absurd rfl h2
 . rename_i hk;exact⟨hk,o,h1,h2⟩
theorem tt {hp:Hp}(inv:Inv H G hp){K:List Nat}(hK:∀k∈K,aN hp k):Inv H (nf G K) (ct K++hp) where
 obs j o hj:=by
  rw[cQ]at hj;split at hj
  . rename_i hk;cases hj;obtain⟨o,h1,_⟩:=hK j hk;exact inv.get_reg h1
  . exact ObOk.mono (hp:=hp) (iP H G K) (fun _ _ _ _=>rfl) (fun r hr=>hr) hj (inv.obs j o hj)
 out j hj:=by
  rw[cQ]at hj;split at hj
  . cases hj
  . exact inv.out j hj
 dist j j' b r r' h1 h2 l1 l2:=inv.dist j j' b r r' h1 h2 (dx l1).2 (dx l2).2
 imm b hb:=by
  rcases hb with hb|⟨k,hk,r,hat⟩
  . exact⟨(inv.imm b hb).1,fun⟨j,r,l,h⟩=>(inv.imm b hb).2 ⟨j,r,(dx l).2,h⟩⟩
  . refine⟨inv.lt b ⟨k,r,hK k hk,hat⟩,fun⟨j,r',l,h⟩=> ?_⟩;have:=inv.dist k j b r r' hat h (hK k hk) (dx l).2;exact(dx l).1 (this▸hk)
 lt b:=fun⟨j,r,l,h⟩=>inv.lt b ⟨j,r,(dx l).2,h⟩
theorem NS {hp:Hp}(inv:Inv H G hp){q:Nat}{o o':OB}(hq:hp.get q=some o)(hd:o≠.dead)(ho:ObOk H G q o'):Inv H G ((q,o')::hp) where
 obs j x hj:=by
  rw[Hp.get_cons]at hj;split at hj
  . rename_i e;cases hj;rw[<-e];exact ho
  . exact inv.obs j x hj
 out j hj:=by
  rw[Hp.get_cons]at hj;split at hj
  . cases hj
  . exact inv.out j hj
 dist j j' b r r' h1 h2 l1 l2:=by
  have key:∀i,aN ((q,o')::hp) i->aN hp i:=fun i hi=>by
   rcases bm.1 hi with ⟨e,_⟩|⟨_,h⟩
   . rw[<-e];exact⟨o,hq,hd⟩
   . exact h
  exact inv.dist j j' b r r' h1 h2 (key _ l1) (key _ l2)
 imm b hb:=⟨(inv.imm b hb).1,fun⟨j,r,l,h⟩=>(inv.imm b hb).2 ⟨j,r,(by
     rcases bm.1 l with ⟨e,_⟩|⟨_,h⟩
     . rw[<-e];exact⟨o,hq,hd⟩
     . exact h),h⟩⟩
 lt b:=fun⟨j,r,l,h⟩=>inv.lt b ⟨j,r,(by
     rcases bm.1 l with ⟨e,_⟩|⟨_,h⟩
     . rw[<-e];exact⟨o,hq,hd⟩
     . exact h),h⟩
theorem tJ (els:List AV)(n:Nat):∃post,AV.flats els=AV.flats (els.take n)++post:=⟨AV.flats (els.drop n),by rw[<-AV.flats_append,w3]⟩
theorem Cj {hp:Hp}(inv:Inv H G hp){K:List Nat}{v:Value}{k n:Nat}(hK:k∈K)(hv:RepS H G v (.sl k [] 0 n)){sh:Sh}{els:List AV}
  (ho:(∃b cap c e fz,G.reg k=some (.blk b (.ar cap sh))/\n<=cap/\H[b]? =some (.cells c e fz)/\els.length=n/\(∀x∈els,aD sh x=true/\x.plain=true/\x.wf)/\∀j (h:j<(AV.flats els).length),∃u,c[0+j]? =some u/\RepS H (nf G K) u (AV.flats els)[j])\/(els=[]/\n=0)) :
  RepS H (nf G K) v (.lst false sh els):=by
 generalize hx:AV.sl k [] 0 n=x at hv;cases hv<;>cases hx
 . rename_i b root m e o hr hs ho' hle;rcases ho with ⟨b',cap,c,e',fz,h1,h2,h3,h4,h5,h6⟩|⟨rfl,rfl⟩
   . rw[h1]at hr;cases hr;simp only[Sh.sub,WG,Sh.ar.injEq]at hs;obtain⟨rfl,rfl⟩:=hs;simp only[Sh.off,WG]at ho';subst ho';refine .lst false sh els _ _ n _ c e' fz (.inr ⟨k,hK,_,.of h1⟩) h3 h4.symm (by omega) (fun h=>by cases h) h5 (fun j=>(c[0+j]?).getD undef) (fun j hj=> ?_) fun j hj=> ?_
     . obtain⟨u,hu,_⟩:=h6 j hj;simp only[Nat.zero_mul,wu,hu,WL]
     . obtain⟨u,hu,hr⟩:=h6 j hj;simp only[hu,WL];exact hr
   . exact .lstE false sh _ _ fun h=>by cases h
 . rename_i b x root m e hr hs ho';rcases ho with ⟨b',cap,c,e',fz,h1,h2,h3,h4,h5,h6⟩|⟨rfl,_⟩
   . obtain rfl:=List.length_eq_zero_iff.1 h4;exact .lstE false sh _ _ fun h=>by cases h
   . exact .lstE false sh _ _ fun h=>by cases h
 . rename_i a hr;rcases ho with ⟨b',cap,c,e',fz,h1,h2,h3,h4,h5,h6⟩|⟨rfl,_⟩
   . rw[h1]at hr;cases hr
   . exact .lstE false sh _ _ fun h=>by cases h
 . rename_i b cap X hr hle hn;rcases ho with ⟨b',cap,c,e',fz,h1,h2,h3,h4,h5,h6⟩|⟨rfl,rfl⟩
   . rw[h1]at hr;cases hr
   . exact absurd hn (wp 0)
theorem Ew {hp:Hp}(inv:Inv H G hp){K:List Nat}{v:Value}{x y:AV}{ks:List Nat}(h:gX hp x=some (y,ks))(hK:∀k∈ks,k∈K)(hv:RepS H G v x) :
  RepS H (nf G K) v y/\(∃f s l,y= .lst f s l)/\∀k∈ks,aN hp k:=by
 unfold gX at h;split at h
 . cases h;exact⟨hv.mono (iP H G K),⟨_,_,_,rfl⟩,fun k hk=>by cases hk⟩
 . rename_i k n;split at h
   . rename_i sh els hk;split at h
     . rename_i hn;cases h;refine⟨Cj inv (hK k (by simp)) hv ?_,⟨_,_,_,rfl⟩,fun j hj=>by rw[wF]at hj;rw[hj];exact⟨_,hk,by simp⟩⟩;rcases inv.obs k _ hk with ⟨h1,h2⟩|⟨b,cap,c,e,fz,h1,h2,h3,h4,h5,h6,h7⟩
       . right;subst h1;exact⟨by simp,by simpa using hn⟩
       . left;obtain⟨post,hpost⟩:=tJ els n;refine⟨b,cap,c,e,fz,h1,by omega,h3,by rw[wd];omega,fun z hz=>h6 z (List.mem_of_mem_take hz),fun j hj=> ?_⟩;have hj':j<(AV.flats els).length:=by rw[hpost,wa];omega
         obtain⟨u,hu,hr⟩:=h7 j hj';refine⟨u,hu,?_⟩;have e1:(AV.flats els)[j]=(AV.flats (els.take n))[j]:=by
          have:(AV.flats els)[j]? =(AV.flats (els.take n))[j]? :=by rw[hpost,w0 hj]
          rw[wK hj',wK hj]at this;exact Option.some.inj this
         rw[<-e1];exact hr.mono (iP H G K)
     . cases h
   . cases h
 . cases h
theorem ni {hp:Hp}:∀{l m:List AV} {ks:List Nat},gK hp l=some (m,ks)->∀k∈ks,aN hp k
 | [],m,ks,h=>by simp only[gK,WG,WM]at h;obtain⟨rfl,rfl⟩:=h;exact fun k hk=>by cases hk
 | x::l,m,ks,h=>by simp only[gK,WF,WH]at h;obtain⟨⟨y,k1⟩,h1,⟨m',k2⟩,h2,h3⟩:=h;simp only[WM]at h3;obtain⟨rfl,rfl⟩:=h3;intro k hk;rw[wZ]at hk;exact hk.elim (v9 h1 k) (ni h2 k)
theorem Eu {α:Type}(pre:List α)(x:α)(post:List α)(j:Nat):(pre++[x]++post)[j]? =if j<pre.length then pre[j]? else if j=pre.length then some x else post[j-pre.length-1]? :=by
 rw[wY];by_cases h:j<pre.length
 . rw[if_pos h,w0 h]
 . rw[if_neg h,wP (by omega)];by_cases h2:j=pre.length
   . rw[if_pos h2,h2];simp
   . rw[if_neg h2];obtain⟨i,hi⟩:∃i,j-pre.length=i+1:=⟨j-pre.length-1,by omega⟩;rw[hi];rfl
theorem tE {hp:Hp}(inv:Inv H G hp){K:List Nat}:∀{l m:List AV} {ks:List Nat},gK hp l=some (m,ks)->(∀k∈ks,k∈K) ->
  m.length=l.length/\(∀j (h:j<l.length) (h':j<m.length),∀v,RepS H G v l[j]->RepS H (nf G K) v m[j])/\(∀x∈m,∃f s l,x= .lst f s l)
 | [],m,ks,h,hK=>by simp only[gK,WG,WM]at h;obtain⟨rfl,rfl⟩:=h;exact⟨rfl,fun j h=>by simp at h,fun x hx=>by cases hx⟩
 | x::l,m,ks,h,hK=>by
   simp only[gK,WF,WH]at h;obtain⟨⟨y,k1⟩,h1,⟨m',k2⟩,h2,h3⟩:=h;simp only[WM]at h3;obtain⟨rfl,rfl⟩:=h3;obtain⟨i1,i2,i3⟩:=tE inv h2 fun k hk=>hK k (by simp[hk])
   refine⟨by simp[i1],fun j hj hj' v hv=> ?_,fun z hz=> ?_⟩
   . cases j with
     | zero=>exact(Ew inv h1 (fun k hk=>hK k (by simp[hk])) hv).1
     | succ j=>exact i2 j (by simpa using hj) (by simpa using hj') v hv
   . rcases wH.1 hz with rfl|hz
     . unfold gX at h1;split at h1
       . cases h1;exact⟨_,_,_,rfl⟩
       . split at h1
         . split at h1
           . cases h1;exact⟨_,_,_,rfl⟩
           . cases h1
         . cases h1
       . cases h1
     . exact i3 z hz
theorem pP :∀{m:List AV},(∀x∈m,∃f s l,x= .lst f s l)->AV.flats m=m
 | [],_=>rfl
 | x::m,h=>by obtain⟨f,s,l,rfl⟩:=h x (by simp);rw[AV.flats,pP fun z hz=>h z (by simp[hz])];rfl
theorem tK :∀{m:List AV},(∀x∈m,x.scalar=true)->AV.flats m=m
 | [],_=>rfl
 | x::m,h=>by rw[AV.flats,tK fun z hz=>h z (by simp[hz]),AV.flat_scalar (h x (by simp))];rfl
theorem N4 {st st1:St}{q:Nat}{p:List Nat}(hst:StOk H G st tmps)(h:CY st q p=some st1) :
  ∃G2,StOk H G2 st1 tmps/\Move H G st.hp H G2 st1.hp/\∀j,G2.reg j=G.reg j:=by
 unfold CY at h;split at h
 case h_2=>cases h
 rename_i sh a hq;split at h
 case h_2=>cases h
 rename_i k n hnav hsub;split at h
 case h_2=>cases h
 rename_i m b hk;rw[WF]at h;obtain⟨⟨els,ks⟩,h1,h⟩:=h;rw[WJ,WH]at h;obtain⟨hcond,a',ha',rfl⟩:=h;simp only[wx,decide_eq_true_eq,WA]at hcond;obtain⟨⟨⟨hmn,hqK⟩,_⟩,_⟩:=hcond;subst hmn;have inv:=hst.inv;have hqK:q∉k::ks:=fun e=>by rw[List.contains_iff_mem.2 e]at hqK;cases hqK
 obtain⟨bq,cq,eq',fq,rq,hbq,szq,frq,shq,wq,rcq⟩:=inv.obs q _ hq;obtain⟨bk,ck,ek,fk,rk,hbk,szk,frk,shk,wk,rck⟩:=inv.obs k _ hk;simp only[aD,wx,beq_iff_eq,wJ]at shk;have hbf:b.flat=b.kids:=by rw[AV.flat_kids shk.1.1,tK fun x hx=>shk.2 x hx]
 obtain⟨f1,f2,f3⟩:=tE (K:=k::ks) inv h1 fun j hj=>w7 _ hj
 rw[hbf]at rck;have hlive:∀j∈k::ks,aN st.hp j:=by
  intro j hj;rcases wH.1 hj with rfl|hj
  . exact⟨_,hk,by simp⟩
  . exact ni h1 j hj
 have inv1:=tt inv hlive;obtain⟨x,o,pre,post,n1,n2,n3,n4,n5,n6,n7,n8⟩:=fj p sh a .sc shq hsub;rw[hnav]at n1;cases n1;obtain⟨a2,m1,m2,m3,m4,m5⟩:=n8 (.lst false .sc els) rfl;rw[ha']at m1;cases m1;have hfl:a.flat=pre++[.sl k [] 0 m]++post:=n4;have hfl':a'.flat=pre++[.lst false .sc els]++post:=m3;have hval:∃v,cq[0+pre.length]? =some v/\RepS H G v (.sl k [] 0 m):=by
  have hlt:pre.length<a.flat.length:=by rw[hfl];simp
  obtain⟨v,hv,hr⟩:=rcq pre.length hlt;refine⟨v,hv,?_⟩;have:a.flat[pre.length]= .sl k [] 0 m:=by
   have:a.flat[pre.length]? =some (.sl k [] 0 m):=by rw[hfl,wY,wP (wo _)];simp
   rw[wK hlt]at this;exact Option.some.inj this
  rw[<-this];exact hr
 obtain⟨v,hv,hrv⟩:=hval;have hnew:RepS H (nf G (k::ks)) v (.lst false .sc els):=Cj inv w9 hrv (.inl ⟨bk,m,ck,ek,fk,rk,wo _,hbk,by rw[f1];exact shk.1.2,fun z hz=>by
   obtain⟨f,s,l,rfl⟩:=f3 z hz;exact⟨rfl,rfl,trivial⟩,fun j hj=>by
   have e1:=pP f3;have hj1:j<els.length:=by rw[<-e1];exact hj
   have hj2:j<b.kids.length:=by rw[<-f1];exact hj1
   obtain⟨u,hu,hr⟩:=rck j hj2;refine⟨u,hu,?_⟩;have:=f2 j hj2 hj1 u hr;have e2:(AV.flats els)[j]=els[j]:=by congr 1
   rw[e2];exact this⟩)
 have hob:ObOk H (nf G (k::ks)) q (.fix sh a'):=by
  refine⟨bq,cq,eq',fq,rq,hbq,szq,frq,m2,m4 wq trivial,fun j hj=> ?_⟩;have hlen:a'.flat.length=a.flat.length:=by rw[hfl,hfl'];simp
  obtain⟨u,hu,hr⟩:=rcq j (by rw[<-hlen];exact hj);by_cases e:j=pre.length
  . refine⟨v,by rw[e];exact hv,?_⟩;have:a'.flat[j]? =some (.lst false .sc els):=by rw[hfl',e,wY,wP (wo _)];simp
    rw[wK hj]at this;rw[Option.some.inj this];exact hnew
  . refine⟨u,hu,?_⟩;have:a'.flat[j]? =a.flat[j]? :=by rw[hfl,hfl',Eu,Eu,if_neg e,if_neg e]
    rw[wK hj,wK (by rw[<-hlen];exact hj)]at this;rw[Option.some.inj this];exact hr.mono (iP H G _)
 have hq1:Hp.get (ct (k::ks)++st.hp) q=some (.fix sh a):=by rw[cQ,if_neg hqK];exact hq
 have inv2:=NS inv1 hq1 (by simp) hob;have hlv:∀b,bG (nf G (k::ks)) ((q,.fix sh a')::(ct (k::ks)++st.hp)) b->bG G st.hp b:=fun b ⟨j,r,l,hat⟩=>by
  refine⟨j,r,?_,hat⟩;rcases bm.1 l with ⟨e,_⟩|⟨_,h⟩
  . rw[<-e];exact⟨_,hq,by simp⟩
  . exact(dx h).2
 exact⟨nf G (k::ks),⟨inv2,fun i=>(hst.fr i).mono (iP H G _)⟩,⟨inv2,wo _,fun b hb=>⟨.inl hb,rfl⟩,fun i l h=>h,fun _ _ _=>rfl,fun b hb=>.inl (hlv b hb),fun b hb=>by
  rcases hb with hb|⟨j,hj,r,hat⟩
  . exact .inl hb
  . exact .inr (.inr ⟨j,r,hlive j hj,hat⟩)⟩,fun _=>rfl⟩
theorem N2 {st st1:St}{i:Nat}(hst:StOk H G st tmps)(h:Gs st i=some st1) :
  ∃G2,StOk H G2 st1 tmps/\Move H G st.hp H G2 st1.hp/\∀j,G2.reg j=G.reg j:=by
 unfold Gs at h;split at h
 case h_2=>cases h
 rename_i k n hfr;split at h
 case h_2=>cases h
 rename_i m b hk;rw[WF]at h;obtain⟨⟨els,ks⟩,h1,h⟩:=h;rw[WJ]at h;obtain⟨hcond,h⟩:=h;cases h;simp only[wx,decide_eq_true_eq]at hcond;obtain⟨⟨hmn,_⟩,_⟩:=hcond;subst hmn;have inv:=hst.inv;obtain⟨bk,ck,ek,fk,rk,hbk,szk,frk,shk,wk,rck⟩:=inv.obs k _ hk;simp only[aD,wx,beq_iff_eq,wJ]at shk;have hbf:b.flat=b.kids:=by rw[AV.flat_kids shk.1.1,tK fun x hx=>shk.2 x hx]
 obtain⟨f1,f2,f3⟩:=tE (K:=k::ks) inv h1 fun j hj=>w7 _ hj
 rw[hbf]at rck;have hlive:∀j∈k::ks,aN st.hp j:=by
  intro j hj;rcases wH.1 hj with rfl|hj
  . exact⟨_,hk,by simp⟩
  . exact ni h1 j hj
 have inv1:=tt inv hlive;have hv:=hst.fr i;rw[hfr,aq rfl]at hv;have hnew:RepS H (nf G (k::ks)) (tmps.getD i undef) (.lst false .sc els):=Cj inv w9 hv (.inl ⟨bk,m,ck,ek,fk,rk,wo _,hbk,by rw[f1];exact shk.1.2,fun z hz=>by
   obtain⟨f,s,l,rfl⟩:=f3 z hz;exact⟨rfl,rfl,trivial⟩,fun j hj=>by
   have e1:=pP f3;have hj1:j<els.length:=by rw[<-e1];exact hj
   have hj2:j<b.kids.length:=by rw[<-f1];exact hj1
   obtain⟨u,hu,hr⟩:=rck j hj2;refine⟨u,hu,?_⟩;have:=f2 j hj2 hj1 u hr;have e2:(AV.flats els)[j]=els[j]:=by congr 1
   rw[e2];exact this⟩)
 refine⟨nf G (k::ks),⟨inv1,fun j=> ?_⟩,⟨inv1,wo _,fun b hb=>⟨.inl hb,rfl⟩,fun i l h=>h,fun _ _ _=>rfl,fun b ⟨j,r,l,hat⟩=>.inl ⟨j,r,(dx l).2,hat⟩,fun b hb=>by
  rcases hb with hb|⟨j,hj,r,hat⟩
  . exact .inl hb
  . exact .inr (.inr ⟨j,r,hlive j hj,hat⟩)⟩,fun _=>rfl⟩
 simp only[Fr.get];split
 . rename_i e;rw[<-e,aq rfl];exact hnew
 . exact(hst.fr j).mono (iP H G _)
theorem uA {hp:Hp}:∀{els els':List NE} {ks:List Nat},ju hp els=some (els',ks)->els'.length=els.length /\
  (∀(i:Nat) e',els'[i]? =some e'->(∃k l,e'=NE.own l/\els[i]? =some (NE.nm k l.length)/\hp.get k=some (.grow .sc l)/\0<l.length/\k∈ks)\/(els[i]? =some e'/\∀k n:Nat,e'≠NE.nm k n)) /\
  (∀k∈ks,∃l,hp.get k=some (.grow .sc l))/\(∀(i k n:Nat),els[i]? =some (NE.nm k n)->k∈ks) /\
  (ks.Nodup->∀(i j k n m:Nat),els[i]? =some (NE.nm k n)->els[j]? =some (NE.nm k m)->i=j)
 | [],els',ks,h=>by simp only[ju,WG,WM]at h;obtain⟨rfl,rfl⟩:=h;exact⟨rfl,fun i e h=>by simp at h,fun k h=>by simp at h,fun i k n h=>by simp at h,fun _ i j k n m h=>by simp at h⟩
 | x::els,els',ks,h=>by
   simp only[ju,WF,WH]at h;obtain⟨⟨y,k1⟩,h1,⟨m',k2⟩,h2,h3⟩:=h;simp only[WM]at h3;obtain⟨rfl,rfl⟩:=h3;obtain⟨i1,i2,i3,i4,i5⟩:=uA h2;have hx:(∃k l,y= .own l/\x= .nm k l.length/\hp.get k=some (.grow .sc l)/\0<l.length/\k1=[k])\/(x=y/\(∀k n,y≠.nm k n)/\k1=[]):=by
    unfold u5 at h1;split at h1
    . split at h1
      . rename_i k n _ l hk;rw[WJ]at h1;obtain⟨⟨rfl,hn⟩,h1⟩:=h1;cases h1;exact .inl ⟨k,l,rfl,rfl,hk,hn,rfl⟩
      . cases h1
    . rename_i hne;cases h1;exact .inr ⟨rfl,fun k n e=>hne k n e,rfl⟩
   refine⟨by simp[i1],fun i e' hi=> ?_,fun k hk=> ?_,fun i k n hi=> ?_,fun hn i j k n m hi hj=> ?_⟩
   . cases i with
     | zero =>
       simp only[wN,WG]at hi ⊢;subst hi;rcases hx with ⟨k,l,rfl,rfl,a,b,rfl⟩|⟨rfl,a,_⟩
       . exact .inl ⟨k,l,rfl,rfl,a,b,by simp⟩
       . exact .inr ⟨rfl,a⟩
     | succ i =>
       simp only[wR]at hi ⊢;rcases i2 i e' hi with ⟨k,l,a,b,c,d,e⟩|h
       . exact .inl ⟨k,l,a,b,c,d,wW _ e⟩
       . exact .inr h
   . rcases wZ.1 hk with hk|hk
     . rcases hx with ⟨k',l,rfl,rfl,a,b,rfl⟩|⟨rfl,_,rfl⟩
       . rw[wF]at hk;subst hk;exact⟨l,a⟩
       . cases hk
     . exact i3 k hk
   . cases i with
     | zero =>
       simp only[wN,WG]at hi;subst hi;rcases hx with ⟨k',l,rfl,e,a,b,rfl⟩|⟨e,a,_⟩
       . cases e;simp
       . exact absurd e.symm (a k n)
     | succ i=>exact wW _ (i4 i k n (by simpa using hi))
   . obtain⟨n1,n2,n3⟩:=wQ.1 hn
     have hd:∀k n,x= .nm k n->k∈k1:=fun k n e=>by
      rcases hx with ⟨k',l,_,e',a,b,rfl⟩|⟨e',a,_⟩
      . rw[e]at e';cases e';simp
      . exact absurd (e'.symm.trans e) (a k n)
     cases i with
     | zero =>
       cases j with
       | zero=>rfl
       | succ j =>simp only[wN,wR,WG]at hi hj;exact absurd rfl (n3 k (hd k n hi) k (i4 j k m hj))
     | succ i =>
       cases j with
       | zero =>simp only[wN,wR,WG]at hi hj;exact absurd rfl (n3 k (hd k m hj) k (i4 i k n hi))
       | succ j=>rw[i5 n2 i j k n m (by simpa using hi) (by simpa using hj)]
def Bv (G:Gh)(k:Nat):Nat:=match G.reg k with|some (.blk b _)=>b|_=>0
def G6 (G:Gh)(els:List NE)(B:Nat->Nat)(i:Nat):Nat:=match els[i]? with|some (.nm k _)=>Bv G k|_=>B i
theorem OZ {st st1:St}{a:Nat}(hst:StOk H G st tmps)(h:j4 st a=some st1) :
  ∃G2,StOk H G2 st1 tmps/\Move H G st.hp H G2 st1.hp/\∀j,SHK<=j->G2.reg j=G.reg j:=by
 unfold j4 at h;split at h
 case h_2=>cases h;exact⟨G,hst,Move.refl hst.inv,fun _ _=>rfl⟩
 rename_i els ha;rw[WF]at h;obtain⟨⟨els',ks⟩,h1,h⟩:=h;rw[WJ]at h;obtain⟨hcond,h⟩:=h;cases h;simp only[wx,decide_eq_true_eq,dJ,wS]at hcond;obtain⟨⟨⟨haK,hnd⟩,haS⟩,_⟩:=hcond;obtain⟨l1,l2,l3,_,l5⟩:=uA h1;have l5:=l5 hnd;have inv:=hst.inv;obtain⟨b,cap,X,c,e,fz,B,hr,hl,hb,hsz,hf,hc⟩:=inv.obs a _ ha;have hla:aN st.hp a:=⟨_,ha,by simp⟩;have hAa:∀y s,G.At a y s↔(b=y\/X y):=fun y s=>⟨fun⟨r,h1,h2⟩=>by rw[hr]at h1;cases h1;exact h2,fun h=>⟨_,hr,h⟩⟩
 have hlk:∀k∈ks,aN st.hp k:=fun k hk=>by obtain⟨l,hl⟩:=l3 k hk;exact⟨_,hl,by simp⟩
 have hblk:∀k l,st.hp.get k=some (.grow .sc l)->0<l.length->∃cp,G.reg k=some (.blk (Bv G k) (.ar cp .sc))/\GrowB H G (Bv G k) cp l:=fun k l hk h0=>by
  rcases inv.obs k _ hk with ⟨h,_⟩|⟨b',cap',c',e',fz',g1,g2,g3,g4,g5,g6,g7⟩
  . subst h;cases h0
  . have:Bv G k=b':=by simp[Bv,g1]
    rw[this];exact⟨cap',g1,c',e',fz',g2,g3,by simpa[Sh.size]using g4,g5,g6,g7⟩
 have hatk:∀k l,st.hp.get k=some (.grow .sc l)->0<l.length->∃r,G.At k (Bv G k) r:=fun k l hk h0=>by obtain⟨cp,h1,_⟩:=hblk k l hk h0;exact⟨_,.of h1⟩
 let X':Nat->Prop:=fun y=>∃(i:Nat) (l:List AV),els'[i]? =some (NE.own l)/\G6 G els B i=y
 let G':Gh:={G with reg:=fun j=>if j=a then some (.nst b cap X')else G.reg j}
 have hGa:G'.reg a=some (.nst b cap X'):=by simp[G']
 have hGo:∀k,k≠a->G'.reg k=G.reg k:=fun k h=>by simp[G',h]
 have hle:Le H G H G':=⟨fun b hb=>⟨hb,rfl⟩,fun k r hk=>by
  by_cases h2:k=a
  . subst h2;rw[hr]at hk;cases hk;exact⟨_,hGa,_,rfl⟩
  . exact⟨r,(hGo k h2).trans hk,Rg.le_refl r⟩,fun _ _ h=>h⟩
 have src:∀(i:Nat) (l:List AV),els'[i]? =some (NE.own l)->(∃k,els[i]? =some (NE.nm k l.length)/\st.hp.get k=some (.grow .sc l)/\0<l.length/\k∈ks/\G6 G els B i=Bv G k)\/(els[i]? =some (NE.own l)/\G6 G els B i=B i):=fun i l hi=>by
  rcases l2 i _ hi with ⟨k,l',e1,e2,e3,e4,e5⟩|⟨e1,_⟩
  . cases e1;exact .inl ⟨k,e2,e3,e4,e5,by simp[G6,e2]⟩
  . exact .inr ⟨e1,by simp[G6,e1]⟩
 have step:Step H G st.hp H G' ((a,.nest els')::(ct ks++st.hp)):=by
  refine qS inv (fun k=>k=a\/k∈ks) (fun k=>k=a) hle (wo _) (fun _=>Iff.rfl) (fun y _ h=>absurd rfl h) (fun k o' hk=> ?_) (fun k hk=> ?_) (fun k y r hlk' hat=> ?_) (fun k k' _ _ _ hT hT' _ _ _ _=>hT.trans hT'.symm)
  . rw[Hp.get_cons]at hk;by_cases e2:a=k
    . subst e2;simp only[if_true,WG]at hk;subst hk;refine .inr ⟨b,cap,X',c,e,fz,G6 G els B,hGa,by rw[l1];exact hl,hb,hsz,hf,⟨fun y=>Iff.rfl,fun i l hi=> ?_,fun i j l l' hi hj he=> ?_,fun i k n hi=> ?_⟩⟩
      . rcases src i l hi with ⟨k,e1,e2,e3,e4,e5⟩|⟨e1,e5⟩
        . rw[e5];obtain⟨cp,g1,g2⟩:=hblk k l e2 e3;obtain⟨v,v1,v2⟩:=hc.nm i k _ e1;refine⟨fun he=> ?_,e3,cp,?_,g2.mono hle rfl⟩
          . have:=inv.dist k a (Bv G k) _ .sc (.of g1) ((hAa _ _).2 (.inl he.symm)) (hlk k e4) hla;exact haK (this▸e4)
          . rw[v1];rcases bF v2 (Nl g1)with ⟨_,_,_,h,_⟩|⟨b2,root,m,e2,o',xo,hr2,hs2,hof,hle2,hev,hxo⟩
            . omega
            . rw[g1]at hr2;cases hr2;simp only[Sh.sub,WG,Sh.ar.injEq]at hs2;obtain⟨rfl,rfl⟩:=hs2;simp only[Sh.off,WG]at hof;subst hof;have:=hxo (by omega);rw[hev];simpa using this
        . rw[e5];obtain⟨h1,h2,cp,h3,h4⟩:=hc.own i l e1;exact⟨h1,h2,cp,h3,h4.mono hle rfl⟩
      . rcases src i l hi with ⟨k,e1,e2,e3,e4,e5⟩|⟨e1,e5⟩<;>rcases src j l' hj with ⟨k',f1,f2,f3,f4,f5⟩|⟨f1,f5⟩
        . rw[e5,f5]at he;obtain⟨r,hr1⟩:=hatk k l e2 e3;obtain⟨r',hr2⟩:=hatk k' l' f2 f3;have:=inv.dist k k' _ _ _ (he▸hr1) hr2 (hlk k e4) (hlk k' f4);subst this;exact l5 i j k _ _ e1 f1
        . exfalso;rw[e5,f5]at he;obtain⟨r,hr1⟩:=hatk k l e2 e3;have:=inv.dist k a _ _ .sc hr1 ((hAa _ _).2 (.inr ((hc.x _).2 ⟨j,l',f1,he.symm⟩))) (hlk k e4) hla;exact haK (this▸e4)
        . exfalso;rw[e5,f5]at he;obtain⟨r,hr1⟩:=hatk k' l' f2 f3;have:=inv.dist k' a _ _ .sc hr1 ((hAa _ _).2 (.inr ((hc.x _).2 ⟨i,l,e1,he⟩))) (hlk k' f4) hla;exact haK (this▸f4)
        . rw[e5,f5]at he;exact hc.inj i j l l' e1 f1 he
      . rcases l2 i _ hi with ⟨k',l',e1,_⟩|⟨_,e1⟩
        . cases e1
        . exact absurd rfl (e1 k n)
    . rw[if_neg e2,cQ]at hk;split at hk
      . rename_i hm;cases hk;obtain⟨l,hl⟩:=l3 k hm;obtain⟨r,hr'⟩:=inv.get_reg hl;exact .inr ⟨r,(hGo k (Ne.symm e2)).trans hr'⟩
      . rename_i hm;exact .inl ⟨fun h=>h.elim (fun h=>e2 h.symm) hm,hk,hGo k (Ne.symm e2)⟩
  . rw[Hp.get_cons]at hk;by_cases e2:a=k
    . rw[if_pos e2]at hk;cases hk
    . rw[if_neg e2,cQ]at hk;split at hk
      . cases hk
      . rw[hGo k (Ne.symm e2)];exact inv.out k hk
  . by_cases e2:k=a
    . subst e2;obtain⟨q,hq,hat⟩:=hat;rw[hGa]at hq;cases hq;refine .inr ⟨rfl,.inl ?_⟩;rcases hat with hat|⟨i,l,hi,rfl⟩
      . exact⟨k,.sc,.inl rfl,hla,(hAa _ _).2 (.inl hat)⟩
      . rcases src i l hi with ⟨k',e1,e2,e3,e4,e5⟩|⟨e1,e5⟩
        . rw[e5];obtain⟨r',hr'⟩:=hatk k' l e2 e3;exact⟨k',r',.inr e4,hlk k' e4,hr'⟩
        . rw[e5];exact⟨k,.sc,.inl rfl,hla,(hAa _ _).2 (.inr ((hc.x _).2 ⟨i,l,e1,rfl⟩))⟩
    . rcases bm.1 hlk' with ⟨h',_⟩|⟨_,h'⟩
      . exact absurd h'.symm e2
      . obtain⟨h3,h4⟩:=dx h';obtain⟨q,hq,hat⟩:=hat;exact .inl ⟨fun h=>h.elim e2 h3,e2,h4,q,(hGo k e2)▸hq,hat⟩
 exact⟨G',⟨step.inv,fun i=>(hst.fr i).mono hle⟩,step.move,fun j hj=>hGo j (by omega)⟩
theorem p7 :∀{ks:List Kp} {G:Gh} {st st1:St},StOk H G st tmps->dC ks st=some st1 ->
  ∃G2,StOk H G2 st1 tmps/\Move H G st.hp H G2 st1.hp/\∀j,SHK<=j->G2.reg j=G.reg j
 | [],G,st,st1,hst,h=>by simp only[dC,WG]at h;subst h;exact⟨G,hst,Move.refl hst.inv,fun _ _=>rfl⟩
 | x::l,G,st,st1,hst,h=>by
   cases x with
   | nst a b =>simp only[dC,WF]at h;obtain⟨st2,h1,h2⟩:=h;obtain⟨G2,a1,a2,a3⟩:=OZ hst h1;obtain⟨G3,b1,b2,b3⟩:=p7 a1 h2;exact⟨G3,b1,a2.trans b2,fun j hj=>(b3 j hj).trans (a3 j hj)⟩
   | _=>exact p7 hst (by simpa[dC]using h)
theorem l8 :∀{ks:List Kp} {G:Gh} {st st1:St},StOk H G st tmps->cJ ks st=some st1 ->
  ∃G2,StOk H G2 st1 tmps/\Move H G st.hp H G2 st1.hp/\∀j,G2.reg j=G.reg j
 | [],G,st,st1,hst,h=>by simp only[cJ,WG]at h;subst h;exact⟨G,hst,Move.refl hst.inv,fun _=>rfl⟩
 | x::l,G,st,st1,hst,h=>by
   cases x with
   | frz q p =>simp only[cJ,WF]at h;obtain⟨st2,h1,h2⟩:=h;obtain⟨G2,a1,a2,a3⟩:=N4 hst h1;obtain⟨G3,b1,b2,b3⟩:=l8 a1 h2;exact⟨G3,b1,a2.trans b2,fun j=>(b3 j).trans (a3 j)⟩
   | frs i =>simp only[cJ,WF]at h;obtain⟨st2,h1,h2⟩:=h;obtain⟨G2,a1,a2,a3⟩:=N2 hst h1;obtain⟨G3,b1,b2,b3⟩:=l8 a1 h2;exact⟨G3,b1,a2.trans b2,fun j=>(b3 j).trans (a3 j)⟩
   | _=>exact l8 hst (by simpa[cJ]using h)
theorem Bn {ks:List Kp}(hst:StOk H G st tmps)(h:bT ks st=some st1) :
  ∃G2,StOk H G2 st1 tmps/\Move H G st.hp H G2 st1.hp/\(eM ks=true->∀q,SHK<=q->∀r,G2.reg q=some r->G.reg q=some r):=by
 unfold bT at h;rw[WF]at h;obtain⟨st0,h0,h⟩:=h;rw[WF]at h;obtain⟨st3,h,h3⟩:=h;unfold pV at h;rw[WF]at h;obtain⟨st2,h1,h2⟩:=h;obtain⟨G0,d1,d2,d3⟩:=p7 hst h0;obtain⟨a1,a2⟩:=GS d1 h1;obtain⟨G3,b1,b2,b3⟩:=gL a1 h2;obtain⟨G4,c1,c2,c3⟩:=l8 b1 h3;exact⟨G4,c1,d2.trans ((a2.trans b2).trans c2),fun hk q hq r hr=>(d3 q hq).symm.trans (Bp (gT hk) hq ((b3 q hq).symm.trans ((c3 q).symm.trans hr)))⟩
end
end Go.Ev
