/-
  Ghosts cut down to the keys that are kept; what memory a run may turn. No condition.
-/
import Derived.Test.YtaloneiaejhopaaGreatDoorEvOpsC
set_option linter.all false
open List renaming mem_singleton->wB,mem_append->wC,mem_cons->wD,mem_cons_self->wE,not_mem_nil->wF,getElem_mem->wG,getElem_of_mem->wH,mem_cons_of_mem->wJ,mem_append_right->wK,all_eq_true->wM,mem_append_left->wN,mem_of_getElem?->wO,map_congr_left->wP,getD_eq_getElem?_getD->wQ,getElem?_eq_getElem->wR,mem_map->wS,contains_iff_mem->wT,cons_append->wU,range'->wW
open Option renaming ite_none_right_eq_some->wX,map_eq_some_iff->wY,some.injEq->wZ,bind_eq_some_iff->w0,isNone_iff_eq_none->w1,bind_some->w2
open Nat renaming add_sub_cancel_left->w3,le_trans->w5,add_assoc->w6,zero_add->w7,add_comm->w8
open Bool renaming and_eq_true->w9,or_eq_true->wa
open Prod renaming mk.injEq->wb,mk->wd
namespace Go.Ev
open Go
section
variable {H :aT} {G G':Gh}
mutual
theorem gb :∀(x:AV),x.plain=true->x.wf->∀y∈x.flat,y.refs=[]
 | .agg l,_,hw,y,hy=>by rw[AV.flat]at hy;rw[AV.wf]at hw;exact cz l hw y hy
 | .bool _,_,_,y,hy=>by simp only[AV.flat,wB]at hy;subst hy;rfl
 | .int _ _,_,_,y,hy=>by simp only[AV.flat,wB]at hy;subst hy;rfl
 | .str _,_,_,y,hy=>by simp only[AV.flat,wB]at hy;subst hy;rfl
 | .s _,_,_,y,hy=>by simp only[AV.flat,wB]at hy;subst hy;rfl
 | .lst _ _ _,_,_,y,hy=>by simp only[AV.flat,wB]at hy;subst hy;rfl
 | .cp _ _,_,_,y,hy=>by simp only[AV.flat,wB]at hy;subst hy;rfl
 | .unk,h,_,_,_=>by cases h
 | .aggR _,h,_,_,_=>by cases h
 | .tup _,h,_,_,_=>by cases h
 | .sl _ _ _ _,h,_,_,_=>by cases h
 | .ptr _ _,h,_,_,_=>by cases h
 | .arp _ _ _ _,h,_,_,_=>by cases h
 | .fn _ _,h,_,_,_=>by cases h
 | .yld _,h,_,_,_=>by cases h
 | .mp _,h,_,_,_=>by cases h
theorem cz :∀(l:List AV),AV.wfp l->∀y∈AV.flats l,y.refs=[]
 | [],_,y,hy=>by simp[AV.flats]at hy
 | x::l,hw,y,hy=>by
   rw[AV.wfp]at hw;rw[AV.flats,wC]at hy;rcases hy with hy|hy
   . exact gb x hw.1 hw.2.1 y hy
   . exact cz l hw.2.2 y hy
end
theorem bL {l:List AV}{x:AV}(hx:x∈l){k:Nat}(hk:k∈x.refs):k∈AV.refss l:=by
 induction l with
 | nil=>cases hx
 | cons a l ih =>
   rw[AV.refss,wC];rcases wD.1 hx with rfl|h
   . exact .inl hk
   . exact .inr (ih h)
mutual
theorem hJ :∀(x:AV),x.wf->∀y∈x.flat,∀k∈y.refs,k∈x.refs
 | .agg l,hw,y,hy,k,hk=>by rw[AV.flat]at hy;rw[AV.wf]at hw;rw[cz l hw y hy]at hk;cases hk
 | .aggR l,hw,y,hy,k,hk=>by rw[AV.flat]at hy;rw[AV.wf]at hw;rw[AV.refs];exact tL l hw y hy k hk
 | .bool _,_,y,hy,k,hk=>by simp only[AV.flat,wB]at hy;subst hy;exact hk
 | .int _ _,_,y,hy,k,hk=>by simp only[AV.flat,wB]at hy;subst hy;exact hk
 | .str _,_,y,hy,k,hk=>by simp only[AV.flat,wB]at hy;subst hy;exact hk
 | .s _,_,y,hy,k,hk=>by simp only[AV.flat,wB]at hy;subst hy;exact hk
 | .lst _ _ _,_,y,hy,k,hk=>by simp only[AV.flat,wB]at hy;subst hy;exact hk
 | .cp _ _,_,y,hy,k,hk=>by simp only[AV.flat,wB]at hy;subst hy;exact hk
 | .unk,_,y,hy,k,hk=>by simp only[AV.flat,wB]at hy;subst hy;exact hk
 | .tup _,_,y,hy,k,hk=>by simp only[AV.flat,wB]at hy;subst hy;exact hk
 | .sl _ _ _ _,_,y,hy,k,hk=>by simp only[AV.flat,wB]at hy;subst hy;exact hk
 | .ptr _ _,_,y,hy,k,hk=>by simp only[AV.flat,wB]at hy;subst hy;exact hk
 | .arp _ _ _ _,_,y,hy,k,hk=>by simp only[AV.flat,wB]at hy;subst hy;exact hk
 | .fn _ _,_,y,hy,k,hk=>by simp only[AV.flat,wB]at hy;subst hy;exact hk
 | .yld _,_,y,hy,k,hk=>by simp only[AV.flat,wB]at hy;subst hy;exact hk
 | .mp _,_,y,hy,k,hk=>by simp only[AV.flat,wB]at hy;subst hy;exact hk
theorem tL :∀(l:List AV),AV.wfs l->∀y∈AV.flats l,∀k∈y.refs,k∈AV.refss l
 | [],_,y,hy,_,_=>by simp[AV.flats]at hy
 | x::l,hw,y,hy,k,hk=>by
   rw[AV.wfs]at hw;rw[AV.flats,wC]at hy;rw[AV.refss,wC];rcases hy with hy|hy
   . exact .inl (hJ x hw.1 y hy k hk)
   . exact .inr (tL l hw.2 y hy k hk)
end
theorem RepS.cut {v:Value}{x:AV}(h:RepS H G v x)(himm:∀b,G.imm b->G'.imm b)(hyl:∀i l,G.yl i=some l->G'.yl i=some l) :
  (∀k∈x.refs,G'.reg k=G.reg k)->RepS H G' v x:=by
 induction h with
 | bool b=>exact fun _=>.bool b
 | int k n=>exact fun _=>.int k n
 | str l=>exact fun _=>.str l
 | s v h=>exact fun _=>.s v h
 | ptr k p b root off hr ho=>exact fun hk=>.ptr k p b root off ((hk k (by simp[AV.refs])).trans hr) ho
 | arp k p off n b root m e o hr hs ho hle=>exact fun hk=>.arp k p off n b root m e o ((hk k (by simp[AV.refs])).trans hr) hs ho hle
 | sl k p off len b root m e o hr hs ho hle=>exact fun hk=>.sl k p off len b root m e o ((hk k (by simp[AV.refs])).trans hr) hs ho hle
 | slZ k p off b x root m e hr hs ho=>exact fun hk=>.slZ k p off b x root m e ((hk k (by simp[AV.refs])).trans hr) hs ho
 | slNil k a hr=>exact fun hk=>.slNil k a ((hk k (by simp[AV.refs])).trans hr)
 | slN k n b cap X hr hle hn=>exact fun hk=>.slN k n b cap X ((hk k (by simp[AV.refs])).trans hr) hle hn
 | ptrN k i b cap X hr hi=>exact fun hk=>.ptrN k i b cap X ((hk k (by simp[AV.refs])).trans hr) hi
 | lstE full sh a cap h=>exact fun _=>.lstE full sh a cap h
 | lst full sh l b off len cap c e fz hi hb hl hc hf hsh val hv hr ih =>exact fun _=>.lst full sh l b off len cap c e fz (himm b hi) hb hl hc hf hsh val hv fun j hj=>ih j hj fun k hk=>by rw[cz l ((AV.wfp_iff l).2 fun x hx=>(hsh x hx).2) _ (wG hj)]at hk;cases hk
 | cp sh a b off c e fz hi hb hsh val hv hr ih=>exact fun _=>.cp sh a b off c e fz (himm b hi) hb hsh val hv fun j hj=>ih j hj fun k hk=>by rw[gb a hsh.2.1 hsh.2.2 _ (wG hj)]at hk;cases hk
 | fn v f caps vs he hn hsc val hv hr ih=>exact fun hk=>.fn v f caps vs he hn hsc val hv fun i hi=>ih i hi fun k h=>hk k (by rw[AV.refs];exact bL (wG hi) h)
 | yld k b hr=>exact fun hk=>.yld k b ((hk k (by simp[AV.refs])).trans hr)
 | mp k b hr=>exact fun hk=>.mp k b ((hk k (by simp[AV.refs])).trans hr)
theorem RepV.cut {v:Value}{x:AV}(h:RepV H G v x)(himm:∀b,G.imm b->G'.imm b)(hyl:∀i l,G.yl i=some l->G'.yl i=some l)
  (hk:∀k∈x.refs,G'.reg k=G.reg k):RepV H G' v x:=by
 obtain⟨h1,h2,vs,h3,h4⟩:=h;exact⟨h1,h2,vs,⟨h3.len,fun j a b=>(h3.get j a b).cut himm hyl fun k hk'=>hk k (hJ x h2 _ (wG b) k hk')⟩,h4⟩
theorem RepT.cut {v:Value}{x:AV}(h:RepT H G v x)(himm:∀b,G.imm b->G'.imm b)(hyl:∀i l,G.yl i=some l->G'.yl i=some l)
  (hk:∀k∈x.refs,G'.reg k=G.reg k):RepT H G' v x:=by
 cases x with
 | unk=>trivial
 | tup l =>obtain⟨vs,hv,hs,hr⟩:=h;exact⟨vs,hv,hs,fun i a b=>(hr i a b).cut himm hyl fun k h=>hk k (by rw[AV.refs];exact bL (wG b) h)⟩
 | _=>exact RepV.cut h himm hyl hk
theorem RepC.cut {c:Array Value}{off:Nat}{x:AV}(h:RepC H G c off x.flat)(hw:x.wf)(himm:∀b,G.imm b->G'.imm b)(hyl:∀i l,G.yl i=some l->G'.yl i=some l)
  (hk:∀k∈x.refs,G'.reg k=G.reg k):RepC H G' c off x.flat:=fun j hj =>
 let ⟨v,hv,hr⟩:=h j hj
 ⟨v,hv,hr.cut himm hyl fun k h=>hk k (hJ x hw _ (wG hj) k h)⟩
theorem RepS.known {v:Value}{x:AV}(h:RepS H G v x):∀k∈x.refs,∃r,G.reg k=some r:=by
 induction h with
 | ptr k p b root off hr ho=>intro k' hk;simp only[AV.refs,wB]at hk;exact⟨_,hk▸hr⟩
 | arp k p off n b root m e o hr hs ho hle=>intro k' hk;simp only[AV.refs,wB]at hk;exact⟨_,hk▸hr⟩
 | sl k p off len b root m e o hr hs ho hle=>intro k' hk;simp only[AV.refs,wB]at hk;exact⟨_,hk▸hr⟩
 | slZ k p off b x root m e hr hs ho=>intro k' hk;simp only[AV.refs,wB]at hk;exact⟨_,hk▸hr⟩
 | slNil k a hr=>intro k' hk;simp only[AV.refs,wB]at hk;exact⟨_,hk▸hr⟩
 | slN k n b cap X hr hle hn=>intro k' hk;simp only[AV.refs,wB]at hk;exact⟨_,hk▸hr⟩
 | ptrN k i b cap X hr hi=>intro k' hk;simp only[AV.refs,wB]at hk;exact⟨_,hk▸hr⟩
 | fn v f caps vs he hn hsc val hv hr ih =>
   intro k hk;rw[AV.refs]at hk;have:∀(l:List AV),k∈AV.refss l->∃x∈l,k∈x.refs:=by
    intro l
    induction l with
    | nil=>intro h;cases h
    | cons a l ih =>
      intro h;rw[AV.refss,wC]at h;rcases h with h|h
      . exact⟨a,by simp,h⟩
      . obtain⟨x,hx,hk⟩:=ih h;exact⟨x,by simp[hx],hk⟩
   obtain⟨x,hx,hk'⟩:=this caps hk;obtain⟨i,hi,rfl⟩:=wH hx;exact ih i hi k hk'
 | yld k b hr=>intro j hj;simp[AV.refs]at hj;subst hj;exact⟨_,hr⟩
 | mp k b hr=>intro j hj;simp[AV.refs]at hj;subst hj;exact⟨_,hr⟩
 | _=>intro k hk;simp[AV.refs]at hk
mutual
theorem pq :∀(x:AV) (k:Nat),k∈x.refs->∃y∈x.flat,k∈y.refs
 | .aggR l,k,h=>by rw[AV.refs]at h;rw[AV.flat];exact qj l k h
 | .agg l,k,h=>by simp[AV.refs]at h
 | .bool _,k,h=>⟨_,by simp[AV.flat],h⟩
 | .int _ _,k,h=>⟨_,by simp[AV.flat],h⟩
 | .str _,k,h=>⟨_,by simp[AV.flat],h⟩
 | .s _,k,h=>⟨_,by simp[AV.flat],h⟩
 | .lst _ _ _,k,h=>⟨_,by simp[AV.flat],h⟩
 | .cp _ _,k,h=>⟨_,by simp[AV.flat],h⟩
 | .unk,k,h=>⟨_,by simp[AV.flat],h⟩
 | .tup l,k,h=>⟨.tup l,by simp[AV.flat],h⟩
 | .sl k' p o l,k,h=>⟨.sl k' p o l,by simp[AV.flat],h⟩
 | .ptr k' p,k,h=>⟨.ptr k' p,by simp[AV.flat],h⟩
 | .arp k' p o l,k,h=>⟨.arp k' p o l,by simp[AV.flat],h⟩
 | .fn f l,k,h=>⟨.fn f l,by simp[AV.flat],h⟩
 | .yld i,k,h=>⟨.yld i,by simp[AV.flat],h⟩
 | .mp i,k,h=>⟨.mp i,by simp[AV.flat],h⟩
theorem qj :∀(l:List AV) (k:Nat),k∈AV.refss l->∃y∈AV.flats l,k∈y.refs
 | [],k,h=>by simp[AV.refss]at h
 | x::l,k,h=>by
   rw[AV.refss,wC]at h;rcases h with h|h
   . obtain⟨y,hy,hk⟩:=pq x k h;exact⟨y,by rw[AV.flats,wC];exact .inl hy,hk⟩
   . obtain⟨y,hy,hk⟩:=qj l k h;exact⟨y,by rw[AV.flats,wC];exact .inr hy,hk⟩
end
theorem RepV.known_refs {v:Value}{x:AV}(h:RepV H G v x):∀k∈x.refs,∃r,G.reg k=some r:=by obtain⟨_,_,vs,h3,_⟩:=h;intro k hk;obtain⟨y,hy,hk'⟩:=pq x k hk;obtain⟨j,hj,rfl⟩:=wH hy;exact(h3.get j (by rw[h3.len];exact hj) hj).known k hk'
theorem RepC.known_refs {c:Array Value}{off:Nat}{x:AV}(h:RepC H G c off x.flat):∀k∈x.refs,∃r,G.reg k=some r:=by intro k hk;obtain⟨y,hy,hk'⟩:=pq x k hk;obtain⟨j,hj,rfl⟩:=wH hy;obtain⟨v,_,hr⟩:=h j hj;exact hr.known k hk'
theorem iW {l:List AV}{k:Nat}(h:k∈AV.refss l):∃x∈l,k∈x.refs:=by
 induction l with
 | nil=>cases h
 | cons a l ih =>
   rw[AV.refss,wC]at h;rcases h with h|h
   . exact⟨a,by simp,h⟩
   . obtain⟨x,hx,hk⟩:=ih h;exact⟨x,by simp[hx],hk⟩
theorem RepT.known_refs {v:Value}{x:AV}(h:RepT H G v x):∀k∈x.refs,∃r,G.reg k=some r:=by
 cases x with
 | unk=>intro k hk;simp[AV.refs]at hk
 | tup l =>obtain⟨vs,hv,hs,hr⟩:=h;intro k hk;rw[AV.refs]at hk;obtain⟨x,hx,hk'⟩:=iW hk;obtain⟨i,hi,rfl⟩:=wH hx;exact(hr i (by omega) hi).known_refs k hk'
 | _=>exact RepV.known_refs h
theorem mZ {k m:Nat}:∀{els:List NE} {i:Nat},els[i]? =some (NE.nm k m)->k∈dE els
 | [],i,h=>by cases h
 | e::els,0,h=>by simp only[List.getElem?_cons_zero,wZ]at h;subst h;simp[dE]
 | e::els,i+1,h=>by have:=mZ (els:=els) (i:=i) (by simpa using h);cases e<;>simp[dE,this]
theorem ir {k:Nat}:∀{els:List NE},k∈dE els->∃(i m:Nat),els[i]? =some (NE.nm k m)
 | [],h=>by cases h
 | e::els,h=>by
   cases e with
   | nm k' m =>
     simp only[dE,wD]at h;rcases h with rfl|h
     . exact⟨0,m,rfl⟩
     . obtain⟨i,m,h⟩:=ir h;exact⟨i+1,m,by simpa using h⟩
   | gone =>obtain⟨i,m,h⟩:=ir (els:=els) h;exact⟨i+1,m,by simpa using h⟩
   | own l =>obtain⟨i,m,h⟩:=ir (els:=els) h;exact⟨i+1,m,by simpa using h⟩
theorem GrowB.cut {b cap:Nat}{l:List AV}(h:GrowB H G b cap l)(himm:∀b,G.imm b->G'.imm b)(hyl:∀i l,G.yl i=some l->G'.yl i=some l):GrowB H G' b cap l:=by obtain⟨c,e,fz,g2,g3,g4,g5,g6,g7⟩:=h;refine⟨c,e,fz,g2,g3,g4,g5,g6,fun j hj=> ?_⟩;obtain⟨v,hv,hr⟩:=g7 j hj;refine⟨v,hv,hr.cut himm hyl fun q hq=> ?_⟩;rw[cz l ((AV.wfp_iff l).2 fun x hx=>(g6 x hx).2) _ (wG hj)]at hq;cases hq
theorem NestC.cut {b:Nat}{X:Nat->Prop}{c:Array Value}{els:List NE}{B:Nat->Nat}(h:NestC H G b X c els B)(himm:∀b,G.imm b->G'.imm b)(hyl:∀i l,G.yl i=some l->G'.yl i=some l)
  (hk:∀j∈dE els,G'.reg j=G.reg j):NestC H G' b X c els B where
 x:=h.x
 own i l hi:=by obtain⟨h1,h2,cp,h3,h4⟩:=h.own i l hi;exact⟨h1,h2,cp,h3,h4.cut himm hyl⟩
 inj:=h.inj
 nm i k m hi:=by obtain⟨v,h1,h2⟩:=h.nm i k m hi;refine⟨v,h1,h2.cut himm hyl fun q hq=> ?_⟩;simp only[AV.refs,wB]at hq;subst hq;exact hk _ (mZ hi)
theorem Inv.fix_refs {hp:Hp}(inv:Inv H G hp){k:Nat}{sh:Sh}{a:AV}(hk:hp.get k=some (.fix sh a)):∀j∈a.refs,∃r,G.reg j=some r:=by obtain⟨b,c,e,fz,_,_,_,_,_,_,hc⟩:=inv.obs k _ hk;exact hc.known_refs
theorem Inv.ob_refs {hp:Hp}(inv:Inv H G hp){k:Nat}{o:OB}(hk:hp.get k=some o):∀j∈bO o,∃r,G.reg j=some r:=by
 cases o with
 | fix sh a=>exact inv.fix_refs hk
 | lp rid vals s =>obtain⟨b,rc,info,_,_,_,_,hv⟩:=inv.obs k _ hk;intro j hj;obtain⟨x,hx,hj⟩:=iW hj;obtain⟨i,hi,rfl⟩:=wH hx;exact(hv.get i hi).known_refs j hj
 | nest els =>obtain⟨b,cap,X,c,e,fz,B,_,_,_,_,_,hc⟩:=inv.obs k _ hk;intro j hj;obtain⟨i,m,hi⟩:=ir hj;obtain⟨v,_,hr⟩:=hc.nm i j m hi;exact hr.known j (by simp[AV.refs])
 | grow _ _=>intro j hj;cases hj
 | dead=>intro j hj;cases hj
 | mp _ _=>intro j hj;cases hj
theorem Inv.reg_get {hp:Hp}(inv:Inv H G hp){k:Nat}{r:Rg}(h:G.reg k=some r):∃o,hp.get k=some o:=by
 cases h':hp.get k with
 | none=>rw[inv.out k h']at h;cases h
 | some o=>exact⟨o,rfl⟩
theorem AJ {hp hp':Hp}(inv:Inv H G hp)(σ:Nat->Nat)(himm':∀b,G.imm b->G'.imm b)(hyl:∀i l,G.yl i=some l->G'.yl i=some l)
  (hsrc:∀k o,hp'.get k=some o->(hp.get (σ k)=some o/\G'.reg k=G.reg (σ k)/\∀j∈bO o,G'.reg j=G.reg j)\/(∃sh,o= .grow sh []/\G'.reg k=some .nil))
  (hout:∀k,hp'.get k=none->G'.reg k=none)
  (hinj:∀k k' b r r',aN hp' k->aN hp' k'->G'.At k b r->G'.At k' b r'->σ k=σ k'->k=k')
  (hok:∀b,G'.imm b->b<H.size) (hno:∀b,G'.imm b->∀k r,aN hp (σ k)->G.At (σ k) b r->G'.At k b r->aN hp' k->False) :
  Inv H G' hp'/\∀b,bG G' hp' b->bG G hp b:=by
 have hl:∀k b r,aN hp' k->G'.At k b r->aN hp (σ k)/\G.At (σ k) b r:=by
  rintro k b r ⟨o,ho,hd⟩ hr;rcases hsrc k o ho with ⟨h1,h2,_⟩|⟨sh,_,h2⟩
  . exact⟨⟨o,h1,hd⟩,(Gh.at_congr h2).1 hr⟩
  . obtain⟨q,hq,hat⟩:=hr;rw[h2]at hq;cases hq;exact hat.elim
 have hL:∀b,bG G' hp' b->bG G hp b:=fun b ⟨k,r,hk,hr⟩=>let ⟨h1,h2⟩:=hl k b r hk hr;⟨σ k,r,h1,h2⟩
 refine⟨⟨?_,hout,?_,?_,?_⟩,hL⟩
 . intro k o ho;rcases hsrc k o ho with ⟨h1,h2,h3⟩|⟨sh,rfl,h2⟩
   . have:=inv.obs (σ k) o h1
     cases o with
     | fix sh a =>obtain⟨b,c,e,fz,g1,g2,g3,g4,g5,g6,g7⟩:=this;exact⟨b,c,e,fz,h2.trans g1,g2,g3,g4,g5,g6,RepC.cut g7 g6 himm' hyl h3⟩
     | grow sh els =>
       rcases this with ⟨h,h'⟩|⟨b,cap,c,e,fz,g1,g2,g3,g4,g5,g6,g7⟩
       . exact .inl ⟨h,h2.trans h'⟩
       . refine .inr ⟨b,cap,c,e,fz,h2.trans g1,g2,g3,g4,g5,g6,fun j hj=> ?_⟩;obtain⟨v,hv,hr⟩:=g7 j hj;refine⟨v,hv,hr.cut himm' hyl fun q hq=> ?_⟩;rw[cz els ((AV.wfp_iff els).2 fun x hx=>(g6 x hx).2) _ (wG hj)]at hq;cases hq
     | dead=>exact let ⟨r,hr⟩:=this;⟨r,h2.trans hr⟩
     | lp rid vals s =>obtain⟨b,rc,info,hr,hb,hy,hrc,hv⟩:=this;exact⟨b,rc,info,h2.trans hr,hb,hyl _ _ hy,hrc,hv.len,fun j hj=>(hv.get j hj).cut himm' hyl fun q hq=>h3 q (bL (wG hj) hq)⟩
     | mp es c=>obtain⟨b,hr,hb,he⟩:=this;exact⟨b,h2.trans hr,hb,he⟩
     | nest els =>obtain⟨b,cap,X,c,e,fz,B,g1,g2,g3,g4,g5,g6⟩:=this;exact⟨b,cap,X,c,e,fz,B,h2.trans g1,g2,g3,g4,g5,g6.cut himm' hyl h3⟩
   . exact .inl ⟨rfl,h2⟩
 . intro k k' b r r' hr hr' hk hk';obtain⟨h1,h2⟩:=hl k b r hk hr;obtain⟨h1',h2'⟩:=hl k' b r' hk' hr';exact hinj k k' b r r' hk hk' hr hr' (inv.dist _ _ b r r' h2 h2' h1 h1')
 . exact fun b hb=>⟨hok b hb,fun⟨k,r,hk,hr⟩=>let ⟨h1,h2⟩:=hl k b r hk hr;hno b hb k r h1 h2 hr hk⟩
 . exact fun b hb=>inv.lt b (hL b hb)
theorem El {hp hp':Hp}(inv:Inv H G hp)(σ:Nat->Nat)(himm:∀b,G'.imm b↔G.imm b)(hyl:∀i l,G.yl i=some l->G'.yl i=some l)
  (hsrc:∀k o,hp'.get k=some o->(hp.get (σ k)=some o/\G'.reg k=G.reg (σ k)/\∀j∈bO o,G'.reg j=G.reg j)\/(∃sh,o= .grow sh []/\G'.reg k=some .nil))
  (hout:∀k,hp'.get k=none->G'.reg k=none)
  (hinj:∀k k' b r r',aN hp' k->aN hp' k'->G'.At k b r->G'.At k' b r'->σ k=σ k'->k=k') :
  Inv H G' hp'/\∀b,bG G' hp' b->bG G hp b :=
 AJ inv σ (fun b h=>(himm b).2 h) hyl hsrc hout hinj (fun b hb=>(inv.imm b ((himm b).1 hb)).1) fun b hb k r h1 h2 _ _=>(inv.imm b ((himm b).1 hb)).2 ⟨σ k,r,h1,h2⟩
structure Move (H:aT)(G:Gh)(hp:Hp)(H':aT)(G':Gh)(hp':Hp):Prop where
 inv:Inv H' G' hp'
 size:H.size<=H'.size
 imm:∀b,G.imm b->G'.imm b/\H'[b]? =H[b]?
 yl:∀i l,G.yl i=some l->G'.yl i=some l
 same:∀b,b<H.size->¬bG G hp b->H'[b]? =H[b]?
 live:∀b,bG G' hp' b->bG G hp b\/H.size<=b
 immNew:∀b,G'.imm b->G.imm b\/H.size<=b\/bG G hp b
theorem Step.move {hp hp':Hp}{H':aT}(h:Step H G hp H' G' hp'):Move H G hp H' G' hp' :=
 ⟨h.inv,h.size,h.le.imm,h.le.yl,h.same,h.live,h.immNew⟩
theorem Move.trans {H₀ H₁ H₂:aT}{G₀ G₁ G₂:Gh}{p₀ p₁ p₂:Hp}(h:Move H₀ G₀ p₀ H₁ G₁ p₁)(h':Move H₁ G₁ p₁ H₂ G₂ p₂):Move H₀ G₀ p₀ H₂ G₂ p₂ where
 inv:=h'.inv
 size:=w5 h.size h'.size
 imm b hb:=⟨(h'.imm b (h.imm b hb).1).1,((h'.imm b (h.imm b hb).1).2).trans (h.imm b hb).2⟩
 yl i l hl:=h'.yl i l (h.yl i l hl)
 same b hb hl:=by
  have:¬bG G₁ p₁ b:=fun h1=>by
   rcases h.live b h1 with h2|h2
   . exact hl h2
   . omega
  rw[h'.same b (Nat.lt_of_lt_of_le hb h.size) this,h.same b hb hl]
 live b hb:=by
  rcases h'.live b hb with h1|h1
  . exact h.live b h1
  . exact .inr (w5 h.size h1)
 immNew b hb:=by
  rcases h'.immNew b hb with h1|h1|h1
  . exact h.immNew b h1
  . exact .inr (.inl (w5 h.size h1))
  . rcases h.live b h1 with h2|h2
    . exact .inr (.inr h2)
    . exact .inr (.inl h2)
end
def Kept (w w':World):Prop:=w'.os=w.os/\w'.output=w.output
theorem Kept.refl (w:World):Kept w w:=⟨rfl,rfl⟩
theorem Kept.trans {a b c:World}(h:Kept a b)(h':Kept b c):Kept a c:=⟨h'.1.trans h.1,h'.2.trans h.2⟩
def zA (F:Fence)(n:Nat)(P:Program)(gl:Gl)(cl:Cl):Prop :=
 ∀{im:Im} (o:Oper) (m:MOp) (a:Act) (w:World) (G:Gh) (st:St) (v:AV) (us:Hp),GlOk w.heap G gl->StOk w.heap G st a.tmps->aF P im o=some m->af gl cl st o.dst m=some (v,us) ->
  ∀(K:Act->World->Prop) (Q:Exit->Act->World->Prop),
   (∀v' w' G',Kept w w'->Step w.heap G st.hp w'.heap G' (us++st.hp)->RepT w'.heap G' v' v->K (a.put o.dst v') w')->o.wpIn F n P a w K Q
theorem ig (a:Act)(d:Option Tmp)(v:Value)(hd:∀i,d=some i->i<a.tmps.size)(i:Nat) :
  (a.put d v).tmps.getD i undef=if d=some i then v else a.tmps.getD i undef:=by
 cases d with
 | none=>simp[Act.put]
 | some j =>
   have hj:=hd j rfl;simp only[Act.put,wZ];by_cases h:j=i
   . subst h;simp[hj]
   . simp only[h,if_false,Array.getD_eq_getD_getElem?];rw[Array.getElem?_setIfInBounds_ne h]
theorem dk (a:Act)(d:Option Tmp)(v:Value):(a.put d v).tmps.size=a.tmps.size:=by cases d<;>simp[Act.put]
theorem xB (fr:Fr)(d:Option Nat)(v:AV)(i:Nat):(fr.upd d v).get i=if d=some i then v else fr.get i:=by
 cases d with
 | none=>simp[Fr.upd]
 | some j=>simp[Fr.upd,Fr.get]
theorem hY {H H':aT}{G G':Gh}{st:St}{a:Act}{d:Option Tmp}{v:AV}{v':Value}{us:Hp}(hst:StOk H G st a.tmps)(hd:∀i,d=some i->i<a.tmps.size)
  (hs:Step H G st.hp H' G' (us++st.hp)) (hv:RepT H' G' v' v):StOk H' G' (st.upd d v us) (a.put d v').tmps:=by
 refine⟨hs.inv,fun i=> ?_⟩;rw[ig a d v' hd,St.upd,xB];split
 . exact hv
 . exact(hst.fr i).mono hs.le
section
variable {gl :Gl} {cl:Cl} {st st':St} {d:Option Nat} {m:MOp} {v:AV} {us:Hp}
theorem Hp.get_append (us hp:Hp)(k:Nat):Hp.get (us++hp) k=(match Hp.get us k with|some o=>some o|none=>Hp.get hp k):=by
 induction us with
 | nil=>rfl
 | cons x us ih =>obtain⟨j,o⟩:=x;simp only[wU,Hp.get];by_cases h:j=k<;>simp[h,ih]
theorem Hp.get_mem {us:Hp}{k:Nat}{o:OB}(h:Hp.get us k=some o):(k,o)∈us:=by
 induction us with
 | nil=>cases h
 | cons x us ih =>
   obtain⟨j,o'⟩:=x;simp only[Hp.get]at h;by_cases hj:j=k
   . simp[hj]at h;simp[hj,h]
   . simp only[hj,if_false]at h;exact wJ _ (ih h)
theorem Hp.get_none {us:Hp}{k:Nat}(h:∀o,(k,o)∉us):Hp.get us k=none:=by
 cases h':Hp.get us k with
 | none=>rfl
 | some o=>exact absurd (Hp.get_mem h') (h o)
theorem cd {fr fr':Fr}:∀{l:List Opd},(∀x∈l,Opd.val gl fr' x=Opd.val gl fr x)->vals gl fr' l=vals gl fr l
 | [],_=>rfl
 | x::l,h=>by rw[vals,vals,h x (by simp),cd fun y hy=>h y (by simp[hy])]
theorem dw {fr:Fr}{l:List Opd}{x:Opd}(hx:x∈l){k:Nat}(hk:k∈(x.val gl fr).refs):k∈AV.refss (vals gl fr l):=by
 induction l with
 | nil=>cases hx
 | cons y l ih =>
   rw[vals,AV.refss,wC];rcases wD.1 hx with rfl|h
   . exact .inl hk
   . exact .inr (ih h)
theorem r9 {fr:Fr}{l:List Opd}{k:Nat}:k∈AV.refss (vals gl fr l)↔∃x∈l,k∈(x.val gl fr).refs:=by
 constructor
 . intro h
   induction l with
   | nil=>cases h
   | cons y l ih =>
     rw[vals,AV.refss,wC]at h;rcases h with h|h
     . exact⟨y,by simp,h⟩
     . obtain⟨x,hx,hk⟩:=ih h;exact⟨x,by simp[hx],hk⟩
 . rintro ⟨x,hx,hk⟩;exact dw hx hk
theorem reach_congr {hp hp':Hp}:∀{n:Nat} {l acc:List Nat},(∀k∈eo hp n l acc,k∈acc\/hp'.get k=hp.get k)->eo hp' n l acc=eo hp n l acc
 | 0,l,acc,_=>rfl
 | n+1,[],acc,_=>rfl
 | n+1,k::t,acc,h=>by
   rw[eo]at h ⊢;rw[eo];split
   . rename_i hc;rw[if_pos hc]at h;exact reach_congr h
   . rename_i hc;rw[if_neg hc]at h;have hk:hp'.get k=hp.get k:=(h k (reach_acc (by simp))).resolve_left (by simpa using hc);rw[hk];refine reach_congr fun j hj=> ?_
     rcases h j hj with h1|h1
     . exact .inl (by simp[h1])
     . exact .inr h1
where
 reach_acc {hp:Hp}:∀{n:Nat} {l acc:List Nat} {k:Nat},k∈acc->k∈eo hp n l acc
 | 0,l,acc,k,h=>h
 | n+1,[],acc,k,h=>h
 | n+1,j::t,acc,k,h=>by
   rw[eo];split
   . exact reach_acc h
   . exact reach_acc (by simp[h])
theorem eQ {hp hp':Hp}{l:List Nat}(h:∀k∈aZ hp l,hp'.get k=hp.get k):aZ hp' l=aZ hp l:=reach_congr fun k hk=>.inr (h k hk)
theorem Ow {f:Nat}{a c:List AV}{x:AV}(h:x∈cvA f a c):x∈a\/x∈c:=by
 unfold cvA at h;split at h
 . exact wC.1 h
 . exact(wC.1 h).symm
theorem gU (h:isImp m=false):bz gl st m=AV.refss (vals gl st.fr m.opds):=by
 cases m with
 | call f l md=>cases md<;>first|rfl|cases h
 | callv f l md=>cases md<;>first|rfl|cases h
 | _=>rfl
theorem ow (hv:∀x∈m.opds,x.val gl st'.fr=x.val gl st.fr)(hr:isImp m=true->∀k∈bz gl st m,st'.hp.get k=st.hp.get k):bz gl st' m=bz gl st m:=by
 cases m with
 | call f l md =>
   cases md with
   | lend=>simp only[bz];rw[cd hv]
   | imp =>have hr:=hr rfl;simp only[bz]at hr ⊢;rw[cd (l:=l) hv];exact eQ hr
 | callv f l md =>
   cases md with
   | lend=>simp only[bz];rw[cd hv]
   | imp =>have hr:=hr rfl;simp only[bz]at hr ⊢;rw[cd (l:=l) fun x hx=>hv x (by simp[MOp.opds,hx]),hv f (by simp[MOp.opds])];exact eQ hr
 | _=>simp only[bz];rw[cd hv]
theorem eV {hp hp':Hp}{a:AV}(h:∀k∈a.refs,hp'.get k=hp.get k):bn hp' a=bn hp a:=by cases a<;>simp only[bn];rename_i k p off len;rw[h k (by simp[AV.refs])]
def uw (hp:Hp)(a:AV):Option (Sh×List AV):=match a with| .str l=>some (Sh.sc,az l)|a=>bn hp a
theorem oT {hp hp':Hp}{a:AV}(h:bn hp' a=bn hp a):uw hp' a=uw hp a:=by cases a<;>first|rfl|exact h
theorem iV {sh:Sh}{bytes:Nat}{x y:Opd}:af gl cl st d (.append sh bytes x y) =
  match d,uw st.hp (y.val gl st.fr)with
  | some k,some (shy,ys) =>
    if(st.hp.get k).isNone&&decide (bytes<=1024)&&(ys.isEmpty||Sh.beq sh shy)then
     match x.val gl st.fr with
     | .lst true shx l =>
       if(l.isEmpty||(Sh.beq sh shx&& !ys.isEmpty))&&decide (l.length+ys.length<=LIM)then
        some (.sl k [] 0 (l.length+ys.length),[(k,.grow sh (l++ys))])
       else none
     | .sl kx [] 0 n =>
       match st.hp.get kx with
       | some (.grow shx els) =>
         if Sh.beq sh shx&&decide (n=els.length/\els.length+ys.length<=LIM)then
          some (.sl k [] 0 (els.length+ys.length),[(kx,.dead),(k,.grow sh (els++ys))])
         else if Sh.beq sh shx&&decide (n+ys.length<=els.length)then
          some (.sl kx [] 0 (n+ys.length),[(k,.grow sh []),(kx,.grow sh (els.take n++ys++els.drop (n+ys.length)))])
         else none
       | _=>none
     | _=>none
    else none
  | _,_=>none:=rfl
theorem kF {sh:Sh}{x y:Opd}:af gl cl st d (.copy sh x y) =
  match x.val gl st.fr,uw st.hp (y.val gl st.fr)with
  | .sl k p off len,some (shy,ys) =>
    if ys.isEmpty||Sh.beq sh shy then
     let n:=min ys.length len
     match st.hp.get k,p with
     | some (.grow shx els),[] =>
       if Sh.beq sh shx&&decide (off+len<=els.length)then
        some (.int .i64 n,[(k,.grow shx (els.take off++ys.take n++els.drop (off+n)))])
       else none
     | some (.fix shx a),p =>
       match shx.sub p,a.nav p with
       | some (.ar _ e),some (.agg l) =>
         if Sh.beq sh e&&decide (off+len<=l.length)then
          (a.setNav p (.agg (l.take off++ys.take n++l.drop (off+n)))).map fun a'=>(.int .i64 n,[(k,.fix shx a')])
         else none
       | _,_=>none
     | _,_=>none
    else none
  | _,none=>gr st.hp sh (x.val gl st.fr) (y.val gl st.fr)
  | _,_=>none:=rfl
theorem uY {hp hp':Hp}{sh:Sh}{x y:AV}(h:∀k∈x.refs,hp'.get k=hp.get k):gr hp' sh x y=gr hp sh x y:=by
 cases x<;>first|rfl|skip
 rename_i k p off len;rw[AV.refs]at h;have h:=h k (by simp);cases p<;>cases y<;>first|rfl|skip
 rename_i k' p' off' len';cases p'<;>first|rfl|skip
 simp only[gr,h]
theorem oO {hp:Hp}{sh:Sh}{x y v:AV}{us:Hp}(h:gr hp sh x y=some (v,us)):∃k o,us=[(k,o)]/\k∈x.refs/\hp.get k≠none:=by
 unfold gr at h;split at h
 . rename_i k off len k' off2 len2;split at h
   . split at h
     . rename_i hk;split at h
       . cases h;exact⟨k,_,rfl,by simp[AV.refs],by simp[hk]⟩
       . cases h
     . cases h
   . cases h
 . cases h
theorem jO {α β:Type}{f g:α->Option β}:∀{l:List α},(∀x∈l,f x=g x)->bw f l=bw g l
 | [],_=>rfl
 | a::l,h=>by rw[bw,bw,h a (by simp),jO fun x hx=>h x (by simp[hx])]
theorem gS {hp hp':Hp}{d:Nat}:∀{l:List OB} {j:Nat} {us:Hp},cv hp d j l=some us->(∀k o,(k,o)∈us->hp.get k=none->hp'.get k=none) ->
  cv hp' d j l=some us/\∀k o,(k,o)∈us->hp.get k=none
 | [],j,us,h,_=>by simp only[cv,wZ]at h ⊢;subst h;exact⟨rfl,fun k o hk=>by cases hk⟩
 | .grow sh els::l,j,us,h,hn=>by
   simp only[cv]at h ⊢;split at h
   . rename_i hnone;simp only[wY]at h;obtain⟨r,hr,rfl⟩:=h;rw[w9]at hnone;have hnone':hp.get (d+1000*j)=none:=by simpa using hnone.1
     obtain⟨h1,h2⟩:=gS (hp':=hp') hr fun k o hk=>hn k o (by simp[hk])
     rw[hn _ _ (wE ..) hnone'];refine⟨by simp[h1,hnone.2],fun k o' hk=> ?_⟩;rcases wD.1 hk with hk|hk
     . cases hk;exact hnone'
     . exact h2 k o' hk
   . cases h
 | .fix _ _::_,_,_,h,_=>by simp[cv]at h
 | .dead::_,_,_,h,_=>by simp[cv]at h
 | .lp _ _ _::_,_,_,h,_=>by simp[cv]at h
theorem iQ {hp:Hp}{d f:Nat}{args:List AV}(h:dg cl hp d f args .lend=some (v,us)):∃as r es,bw (aW hp 4) args=some as/\cl f as []=some (r,[],es) /\
  (AV.plains args=true\/(db r=true/\es.all gn=true))/\((es=[]/\v=r/\us=[])\/(v=rn d r/\cv hp d 0 es=some us)):=by
 simp only[dg,w0]at h;obtain⟨as,has,h⟩:=h;split at h
 . rename_i r hr;rw[wX]at h;obtain⟨hc,h⟩:=h;cases h;refine⟨as,v,[],has,hr,?_,.inl ⟨rfl,rfl,rfl⟩⟩;rw[wa]at hc;exact hc.imp id fun h=>⟨h,rfl⟩
 . rename_i r e es hr;rw[wX]at h;obtain⟨hc,h⟩:=h;simp only[wY,wb]at h;obtain⟨us',hus,h1,rfl⟩:=h;refine⟨as,r,e::es,has,hr,?_,.inr ⟨h1.symm,hus⟩⟩;rw[wa,w9]at hc;exact hc
 . cases h
theorem tZ {hp:Hp}{d f:Nat}{args as:List AV}{r:AV}{es:List OB}(has:bw (aW hp 4) args=some as)(hr:cl f as []=some (r,[],es))
  (hc:AV.plains args=true\/(db r=true/\es.all gn=true)) (h:(es=[]/\v=r/\us=[])\/(es≠[]/\v=rn d r/\cv hp d 0 es=some us)):dg cl hp d f args .lend=some (v,us):=by
 simp only[dg,has,w2,hr];rcases h with ⟨rfl,rfl,rfl⟩|⟨hne,rfl,hus⟩
 . simp only;rw[if_pos];rw[wa];exact hc.imp id And.left
 . cases es with
   | nil=>exact absurd rfl hne
   | cons e es =>
     simp only;rw[if_pos,hus]
     . rfl
     . rw[wa,w9];exact hc
theorem iu {hp hp':Hp}{ks:List Nat}{d:Nat}:∀{l:List OB} {j:Nat} {us:Hp},mu hp ks d j l=some us->(∀k o,(k,o)∈us->hp.get k=none->hp'.get k=none) ->
  mu hp' ks d j l=some us/\∀k o,(k,o)∈us->hp.get k=none
 | [],j,us,h,_=>by simp only[mu,wZ]at h ⊢;subst h;exact⟨rfl,fun k o hk=>by cases hk⟩
 | o::l,j,us,h,hn=>by
   simp only[mu]at h ⊢;rw[wX]at h;obtain⟨hc,h⟩:=h;rw[w9]at hc;simp only[wY]at h;obtain⟨r,hr,rfl⟩:=h;have hnone':hp.get (d+1000*j)=none:=by simpa using hc.1
   obtain⟨h1,h2⟩:=iu (hp':=hp') hr fun k o hk=>hn k o (by simp[hk])
   rw[hn _ _ (wE ..) hnone'];refine⟨by simp[h1,hc.2],fun k o' hk=> ?_⟩;rcases wD.1 hk with hk|hk
   . cases hk;exact hnone'
   . exact h2 k o' hk
theorem uZ {hp hp':Hp}{ks:List Nat}(h:∀k∈ks,hp'.get k=hp.get k):dT hp' ks=dT hp ks:=by unfold dT;rw[Bool.eq_iff_iff,wM,wM];exact⟨fun g k hk=>by rw[<-h k hk];exact g k hk,fun g k hk=>by rw[h k hk];exact g k hk⟩
theorem rH {hp hp':Hp}{all:List Nat}:∀{ks:List Nat},(∀k∈ks,hp'.get k=hp.get k)->iU hp' all ks=iU hp all ks
 | [],_=>rfl
 | k::ks,h=>by rw[iU,iU,jT,jT,h k (by simp),rH fun j hj=>h j (by simp[hj])]
theorem ft :∀{hp:Hp} {i n:Nat},bN hp i n=true->∀q o,(q,o)∈hp->∃j,j<n/\q=SHK+(i+j)
 | [],i,0,_,q,o,h=>by cases h
 | (p,_)::r,i,n+1,hs,q,o,h=>by
   simp only[bN,w9,decide_eq_true_eq]at hs;rcases wD.1 h with h|h
   . exact⟨0,by omega,(wd.inj h).1.trans hs.1⟩
   . obtain⟨j,hj,e⟩:=ft hs.2 q o h;exact⟨j+1,by omega,by rw[e];omega⟩
 | [],_,_+1,hs,_,_,_=>by simp[bN]at hs
 | _::_,_,0,hs,_,_,_=>by simp[bN]at hs
theorem iC {ks:List Nat}{d:Nat}:∀{hp:Hp} {k:Nat} {o:OB},(k,o)∈dP ks d hp->∃q o',(q,o')∈hp/\k=ks.getD (q-SHK) 0/\o=rOB (dn ks d) o'
 | [],k,o,h=>by cases h
 | (q,o')::r,k,o,h=>by
   rw[dP]at h;rcases wD.1 h with h|h
   . exact⟨q,o',by simp,(wd.inj h).1,(wd.inj h).2⟩
   . obtain⟨q2,o2,h1,h2⟩:=iC h;exact⟨q2,o2,by simp[h1],h2⟩
theorem dF {hp:Hp}{d f:Nat}{args:List AV}{ks:List Nat}(h:dq cl hp d f args ks=some (v,us)) :
  (dT hp ks=true/\(AV.refss args).all ks.contains=true/\dR ks=true/\AV.knowns args=true)/\∃r hp' es us',cl f (rAs (up ks) args) (iU hp ks ks)=some (r,hp',es)/\bN hp' 0 ks.length=true/\mu hp ks d 0 es=some us' /\
    v=rA (dn ks d) r/\us=dP ks d hp'++us':=by
 unfold dq at h;rw[wX]at h;obtain⟨hc,h⟩:=h;simp only[w9]at hc;obtain⟨⟨⟨h1,h2⟩,h4⟩,h3⟩:=hc;refine⟨⟨h1,h2,h4,h3⟩,?_⟩;unfold yC at h;split at h
 . rename_i r hp' es hcl;rw[wX]at h;obtain⟨hs,h⟩:=h;simp only[wY,wb]at h;obtain⟨us',hus,rfl,rfl⟩:=h;exact⟨r,hp',es,us',hcl,hs,hus,rfl,rfl⟩
 . cases h
theorem mJ {hp hp':Hp}{d f:Nat}{args:List AV}{rt:List Nat}(h:dq cl hp d f args (aZ hp rt)=some (v,us))(hk:∀k∈aZ hp rt,hp'.get k=hp.get k)
  (hn:∀k o,(k,o)∈us->hp.get k=none->hp'.get k=none):dq cl hp' d f args (aZ hp' rt)=some (v,us):=by
 rw[eQ hk];obtain⟨⟨h1,h2,h4,h3⟩,r,hp2,es,us',h5,h6,h7,rfl,rfl⟩:=dF h;generalize aZ hp rt=ks at *
 unfold dq;rw[uZ hk,h1,h2,h4,h3,rH hk,h5];simp only[Bool.and_self,if_true,yC,h6];rw[(iu (hp':=hp') h7 fun k o hk=>hn k o (wK _ hk)).1];rfl
theorem xW {hp:Hp}{q:Nat}{l:List Nat}:q∈aZ hp (q::l):=by unfold aZ;rw[eo,if_neg (by simp)];exact reach_congr.reach_acc (by simp)
theorem yD {hp:Hp}{d f:Nat}{args:List AV}{ks:List Nat}(h:dq cl hp d f args ks=some (v,us)):∀k o,(k,o)∈us->hp.get k=none\/k∈ks:=by
 obtain⟨⟨h1,h2,h4,h3⟩,r,hp2,es,us',h5,h6,h7,rfl,rfl⟩:=dF h;intro k o hk;rcases wC.1 hk with hk|hk
 . have ⟨q,o',hq,e1,_⟩:=iC hk;have ⟨j,hj,e2⟩:=ft h6 q o' hq;have e3:q-SHK=j:=by rw[e2,w7];exact w3 SHK j
   right;rw[e1,e3,wQ,wR hj];exact wG hj
 . exact .inl ((iu (hp':=hp) h7 fun _ _ _ h=>h).2 k o hk)
theorem cQ (hp:Hp)(j:Nat):∀(K:List Nat),Hp.get (ct K++hp) j=if j∈K then some .dead else Hp.get hp j
 | []=>by simp[ct]
 | k::K=>by
   show Hp.get ((k,.dead)::(ct K++hp)) j=_;rw[Hp.get_cons,cQ hp j K];by_cases h:k=j
   . subst h;simp
   . rw[if_neg h];by_cases h2:j∈K
     . simp[h2]
     . rw[if_neg h2,if_neg (by simp only[wD,not_or];exact⟨fun e=>h e.symm,h2⟩)]
theorem v9 {hp:Hp}{x y:AV}{ks:List Nat}(h:gX hp x=some (y,ks)):∀k∈ks,aN hp k:=by
 unfold gX at h;split at h
 . cases h;exact fun k hk=>by cases hk
 . split at h
   . rename_i hk;split at h
     . cases h;exact fun j hj=>by rw[wB]at hj;rw[hj];exact⟨_,hk,by simp⟩
     . cases h
   . cases h
 . cases h
theorem pU {k:Nat}{o:OB}:∀{K:List Nat},(k,o)∈ct K->k∈K
 | [],h=>by cases h
 | j::K,h=>by
   rcases wD.1 h with h|h
   . cases h;exact wE ..
   . exact wJ _ (pU h)
theorem Gt {hp:Hp}{x y:AV}{ks:List Nat}(h:gX hp x=some (y,ks)):∀k∈ks,k∈x.refs:=by
 unfold gX at h;split at h
 . cases h;exact fun k hk=>by cases hk
 . split at h
   . split at h
     . cases h;exact fun j hj=>by simpa[AV.refs]using hj
     . cases h
   . cases h
 . cases h
theorem CW {hp hp':Hp}{x:AV}(h:∀k∈x.refs,hp'.get k=hp.get k):gX hp' x=gX hp x:=by
 cases x with
 | sl k p o n =>
   have:=h k (by simp[AV.refs])
   cases p with
   | nil =>
     cases o with
     | zero=>simp only[gX,this]
     | succ _=>rfl
   | cons _ _=>rfl
 | _=>rfl
theorem qy {hp hp':Hp}:∀{l:List AV},(∀k∈AV.refss l,hp'.get k=hp.get k)->cg hp' l=cg hp l
 | [],_=>rfl
 | x::l,h=>by rw[AV.refss]at h;rw[cg,cg,CW fun k hk=>h k (wN _ hk),qy fun k hk=>h k (wK _ hk)]
theorem g9 {hp:Hp}:∀{l:List AV},∀k∈(cg hp l).2,k∈AV.refss l/\aN hp k
 | [],k,h=>by cases h
 | x::l,k,h=>by
   rw[cg]at h;rw[AV.refss];rcases wC.1 h with h|h
   . cases hx:gX hp x with
     | none=>rw[hx]at h;cases h
     | some z=>rw[hx]at h;exact⟨wN _ (Gt hx k h),v9 hx k h⟩
   . exact⟨wK _ (g9 k h).1,(g9 k h).2⟩
theorem Gu {hp:Hp}{x y:AV}{ks:List Nat}(h:gX hp x=some (y,ks)):∀k∈ks,∃sh l,hp.get k=some (.grow sh l):=by
 unfold gX at h;split at h
 . cases h;exact fun k hk=>by cases hk
 . split at h
   . rename_i hk;split at h
     . cases h;exact fun j hj=>by rw[wB]at hj;rw[hj];exact⟨_,_,hk⟩
     . cases h
   . cases h
 . cases h
theorem tG {hp:Hp}:∀{l:List AV},∀k∈(cg hp l).2,∃sh l,hp.get k=some (.grow sh l)
 | [],k,h=>by cases h
 | x::l,k,h=>by
   rw[cg]at h;rcases wC.1 h with h|h
   . cases hx:gX hp x with
     | none=>rw[hx]at h;cases h
     | some z=>rw[hx]at h;exact Gu hx k h
   . exact tG k h
theorem eI {hp:Hp}{d q:Nat}{args:List AV}{m:Mode}(h:gq cl hp d q args m=some (v,us)) :
  m= .imp/\∃rid vals us',hp.get q=some (.lp rid vals .ready)/\(∀k∈AV.refss args,k∈aZ hp (q::AV.refss args)) /\
   (∀k∈aZ (ct (cg hp args).2++hp) (q::AV.refss (cg hp args).1),k∈aZ hp (q::AV.refss args)) /\
   dq cl (ct (cg hp args).2++hp) d (RB+rid) (cg hp args).1 (aZ (ct (cg hp args).2++hp) (q::AV.refss (cg hp args).1))=some (v,us')/\us=us'++ct (cg hp args).2:=by
 unfold gq at h;split at h
 . rename_i rid vals hq;unfold lR at h;split at h;rename_i z as ks hz;rw[hz];rw[wX]at h;obtain⟨hc,h⟩:=h;simp only[w9,wM,wT]at hc
   cases hi:dq cl (ct ks++hp) d (RB+rid) as (aZ (ct ks++hp) (q::AV.refss as))with
   | none=>rw[hi]at h;cases h
   | some w =>rw[hi]at h;cases h;exact⟨rfl,rid,vals,w.2,hq,hc.1,hc.2,hi,rfl⟩
 . cases h
theorem uW {hp hp':Hp}{d q:Nat}{args:List AV}{m:Mode}(h:gq cl hp d q args m=some (v,us))
  (hk:∀k∈aZ hp (q::AV.refss args),hp'.get k=hp.get k) (hn:∀k o,(k,o)∈us->hp.get k=none->hp'.get k=none):gq cl hp' d q args m=some (v,us):=by
 obtain⟨rfl,rid,vals,us',hq,h1,h2,h3,rfl⟩:=eI h;clear h;unfold gq;rw[hk q xW,hq];simp only;rw[qy fun k hk'=>hk k (h1 k hk'),eQ hk];generalize cg hp args=z at *
 obtain⟨as,ks⟩:=z;simp only at h2 h3 hn ⊢;have hk1:∀k∈aZ (ct ks++hp) (q::AV.refss as),(ct ks++hp').get k=(ct ks++hp).get k:=fun k hk'=>by rw[cQ,cQ,hk k (h2 k hk')]
 have:=mJ (hp':=ct ks++hp') h3 hk1 fun k o hm hg=>by
  rw[cQ]at hg ⊢;split at hg
  . cases hg
  . rename_i hkk;rw[if_neg hkk];exact hn k o (wN _ hm) hg
 rw[lR];rw[eQ hk1]at this ⊢;rw[if_pos (by simp only[w9,wM,wT];exact⟨h1,h2⟩),this];rfl
theorem yS {hp:Hp}{d q:Nat}{args:List AV}{m:Mode}(h:gq cl hp d q args m=some (v,us)):∀k o,(k,o)∈us->hp.get k=none\/k∈aZ hp (q::AV.refss args):=by
 obtain⟨rfl,rid,vals,us',hq,h1,h2,h3,rfl⟩:=eI h;clear h;intro k o hm;rcases wC.1 hm with hm|hm
 . rcases yD h3 k o hm with h4|h4
   . rw[cQ]at h4;split at h4
     . cases h4
     . exact .inl h4
   . exact .inr (h2 k h4)
 . exact .inr (h1 k (g9 k (pU hm)).1)
theorem oM {hp hp':Hp}{d f:Nat}{args:List AV}{m:Mode}(h:dg cl hp d f args m=some (v,us))(hl:m= .lend->∀a∈args,aW hp' 4 a=aW hp 4 a)
  (hi:m= .imp->∀k∈aZ hp (AV.refss args),hp'.get k=hp.get k)
  (hn:∀k o,(k,o)∈us->hp.get k=none->hp'.get k=none):dg cl hp' d f args m=some (v,us):=by
 cases m with
 | imp =>simp only[dg,wX]at h ⊢;exact⟨h.1,mJ h.2 (hi rfl) hn⟩
 | lend =>
   obtain⟨as,r,es,has,hr,hc,hres⟩:=iQ h;refine tZ (by rw[jO (hl rfl)];exact has) hr hc ?_;rcases hres with hres|⟨h1,h2⟩
   . exact .inl hres
   . cases es with
     | nil =>left;simp only[dg,has,w2,hr,wX,wZ,wb]at h;exact⟨rfl,h.2.1.symm,h.2.2.symm⟩
     | cons e es=>exact .inr ⟨by simp,h1,(gS h2 hn).1⟩
theorem qD {hp:Hp}{d f:Nat}{args:List AV}{m:Mode}(h:dg cl hp d f args m=some (v,us)):∀k o,(k,o)∈us->hp.get k=none\/(m= .imp/\k∈aZ hp (AV.refss args)):=by
 cases m with
 | imp =>
   simp only[dg,wX]at h;obtain⟨⟨h1,h2,h4,h3⟩,r,hp2,es,us',h5,h6,h7,rfl,rfl⟩:=dF h.2;intro k o hk;rcases wC.1 hk with hk|hk
   . have ⟨q,o',hq,e1,_⟩:=iC hk;have ⟨j,hj,e2⟩:=ft h6 q o' hq;have e3:q-SHK=j:=by rw[e2,w7];exact w3 SHK j
     refine .inr ⟨rfl,?_⟩;rw[e1,e3,wQ,wR hj];exact wG hj
   . exact .inl ((iu (hp':=hp) h7 fun _ _ _ h=>h).2 k o hk)
 | lend =>
   obtain⟨as,r,es,has,hr,hc,hres⟩:=iQ h;rcases hres with ⟨_,_,rfl⟩|⟨_,h2⟩
   . intro k o hk;cases hk
   . exact fun k o hk=>.inl ((gS (hp':=hp) h2 fun _ _ _ h=>h).2 k o hk)
theorem jw {hp:Hp}{d:Option Nat}{k:MK}{kk:Nat}{z:AV}{xs:List AV}(h:bC hp d k kk z xs=some (v,us)) :
  (k= .mk/\∃q,d=some q/\hp.get q=none/\us=[(q,.mp [] 0)])\/∃q ys,k≠.mk/\xs= .mp q::ys/\(us=[]\/∃o,k.w=true/\hp.get q≠none/\us=[(q,o)]):=by
 unfold bC at h;split at h
 . split at h
   . rename_i q;rw[wX]at h;obtain⟨h1,h2⟩:=h;cases h2;exact .inl ⟨rfl,q,rfl,by simpa using h1,rfl⟩
   . cases h
 . rename_i q x;split at h
   . rename_i hg;rw[wX,wY]at h;obtain⟨_,r,_,h⟩:=h;cases h;exact .inr ⟨q,_,by simp,rfl,.inl rfl⟩
   . cases h
 . rename_i q x y;split at h
   . rename_i hg;rw[wX,wY]at h;obtain⟨_,r,_,h⟩:=h;cases h;exact .inr ⟨q,_,by simp,rfl,.inr ⟨_,rfl,by rw[hg];simp,rfl⟩⟩
   . cases h
 . rename_i q x;split at h
   . rename_i hg;rw[wX,wY]at h;obtain⟨_,r,_,h⟩:=h;cases r<;>cases h
     . exact .inr ⟨q,_,by simp,rfl,.inr ⟨_,rfl,by rw[hg];simp,rfl⟩⟩
     . exact .inr ⟨q,_,by simp,rfl,.inr ⟨_,rfl,by rw[hg];simp,rfl⟩⟩
   . cases h
 . rename_i q k' n y;split at h
   . rename_i hg;rw[wX,wY]at h;obtain⟨_,r,_,h⟩:=h;cases h;exact .inr ⟨q,_,by simp,rfl,.inr ⟨_,rfl,by rw[hg];simp,rfl⟩⟩
   . cases h
 . rename_i q x;split at h
   . rename_i hg;rw[wX,wY]at h;obtain⟨_,r,_,h⟩:=h;cases h;exact .inr ⟨q,_,by simp,rfl,.inr ⟨_,rfl,by rw[hg];simp,rfl⟩⟩
   . cases h
 . rename_i q;split at h
   . cases h;exact .inr ⟨q,_,by simp,rfl,.inl rfl⟩
   . cases h
 . cases h
theorem uK {hp hp':Hp}{d:Option Nat}{k:MK}{kk:Nat}{z:AV}{xs:List AV}(h:bC hp d k kk z xs=some (v,us))
  (hk:∀q∈AV.refss xs,hp'.get q=hp.get q) (hn:∀q o,(q,o)∈us->hp.get q=none->hp'.get q=none):bC hp' d k kk z xs=some (v,us):=by
 rcases jw h with ⟨rfl,q,rfl,h2,rfl⟩|⟨q,ys,h1,rfl,_⟩
 . cases xs with
   | nil =>simp only[bC]at h ⊢;rw[h2]at h;rw[hn q (.mp [] 0) (by simp) h2];exact h
   | cons x xs=>simp[bC]at h
 . have e:=hk q (by simp[AV.refss,AV.refs]);unfold bC at h ⊢;rw[show(AV.mp q::ys)=AV.mp q::ys from rfl]at h ⊢;split at h<;>simp_all
theorem xF (h:af gl cl st d m=some (v,us))(hv:∀x∈m.opds,x.val gl st'.fr=x.val gl st.fr)
  (hk:iv m=true->ev m=false->∀k∈bz gl st m,st'.hp.get k=st.hp.get k)
  (hc:ev m=true->∀a:AV,(∀k∈a.refs,k∈bz gl st m)->aW st'.hp 4 a=aW st.hp 4 a)
  (hn:∀k o,(k,o)∈us->st.hp.get k=none->st'.hp.get k=none):af gl cl st' d m=some (v,us):=by
 have key:∀x∈m.opds,iv m=true->ev m=false->isImp m=false->∀k∈(x.val gl st.fr).refs,st'.hp.get k=st.hp.get k:=fun x hx h1 h2 h3 k hk'=>hk h1 h2 k (by
  rw[gU h3];exact dw hx hk')
 cases m with
 | mov x=>simp only[MOp.opds,wD,wF,or_false,forall_eq_or_imp,forall_eq]at hv;simp only[af,hv]at h ⊢;exact h
 | pick c a b=>simp only[MOp.opds,wD,wF,or_false,forall_eq_or_imp,forall_eq]at hv;simp only[af,hv]at h ⊢;exact h
 | un x=>simp only[MOp.opds,wD,wF,or_false,forall_eq_or_imp,forall_eq]at hv;simp only[af,hv]at h ⊢;exact h
 | conv x=>simp only[MOp.opds,wD,wF,or_false,forall_eq_or_imp,forall_eq]at hv;simp only[af,hv]at h ⊢;exact h
 | strc x=>simp only[MOp.opds,wD,wF,or_false,forall_eq_or_imp,forall_eq]at hv;simp only[af,hv]at h ⊢;exact h
 | field x=>simp only[MOp.opds,wD,wF,or_false,forall_eq_or_imp,forall_eq]at hv;simp only[af,hv]at h ⊢;exact h
 | extr x=>simp only[MOp.opds,wD,wF,or_false,forall_eq_or_imp,forall_eq]at hv;simp only[af,hv]at h ⊢;exact h
 | nilck x=>simp only[MOp.opds,wD,wF,or_false,forall_eq_or_imp,forall_eq]at hv;simp only[af,hv]at h ⊢;exact h
 | len s x=>simp only[MOp.opds,wD,wF,or_false,forall_eq_or_imp,forall_eq]at hv;simp only[af,hv]at h ⊢;exact h
 | bin o x y=>simp only[MOp.opds,wD,wF,or_false,forall_eq_or_imp,forall_eq]at hv;simp only[af,hv]at h ⊢;exact h
 | binB o x y=>simp only[MOp.opds,wD,wF,or_false,forall_eq_or_imp,forall_eq]at hv;simp only[af,hv]at h ⊢;exact h
 | eqA n s k x y=>simp only[MOp.opds,wD,wF,or_false,forall_eq_or_imp,forall_eq]at hv;simp only[af,hv]at h ⊢;exact h
 | idxStr x y=>simp only[MOp.opds,wD,wF,or_false,forall_eq_or_imp,forall_eq]at hv;simp only[af,hv]at h ⊢;exact h
 | idxArr n e x y=>simp only[MOp.opds,wD,wF,or_false,forall_eq_or_imp,forall_eq]at hv;simp only[af,hv]at h ⊢;exact h
 | mkfn f l=>simp only[af,cd (l:=l) hv]at h ⊢;exact h
 | mapop k kk z l =>simp only[af,cd (l:=l) hv]at h ⊢;exact uK h (fun q hq=>hk rfl rfl q (by rw[gU rfl];exact hq)) hn
 | mini l=>simp only[af,cd (l:=l) hv]at h ⊢;exact h
 | maxi l=>simp only[af,cd (l:=l) hv]at h ⊢;exact h
 | slStr x lo hi =>
   have e1:lo.map (Opd.val gl st'.fr)=lo.map (Opd.val gl st.fr):=by cases lo with|none=>rfl|some y=>simp[hv y (by simp[MOp.opds])]
   have e2:hi.map (Opd.val gl st'.fr)=hi.map (Opd.val gl st.fr):=by cases hi with|none=>rfl|some y=>simp[hv y (by simp[MOp.opds])]
   have e3:=hv x (by simp[MOp.opds]);simp only[af,e1,e2,e3]at h ⊢;exact h
 | lits sh z n ps =>
   have e:ps.map (fun p=>(p.1,Opd.val gl st'.fr p.2))=ps.map (fun p=>(p.1,Opd.val gl st.fr p.2)):=by apply wP;intro p hp;rw[hv p.2 (by simp only[MOp.opds,wS];exact⟨p,hp,rfl⟩)]
   simp only[af,e]at h ⊢;exact h
 | build sh z ps =>
   have e:ps.map (fun p=>(p.1,Opd.val gl st'.fr p.2))=ps.map (fun p=>(p.1,Opd.val gl st.fr p.2)):=by apply wP;intro p hp;rw[hv p.2 (by simp only[MOp.opds,wS];exact⟨p,hp,rfl⟩)]
   simp only[af,e]at h ⊢;exact h
 | alloc sh z =>
   simp only[af]at h ⊢;split at h
   . split at h
     . rename_i k hf;simp only[wZ,wb]at h;obtain⟨rfl,rfl⟩:=h;have:=hn _ _ (wE ..) (by simpa using hf);simp[this]
     . cases h
   . cases h
 | box sh x =>
   have e3:=hv x (by simp[MOp.opds]);simp only[af,e3]at h ⊢;split at h
   . split at h
     . rename_i k hf;simp only[w9]at hf;simp only[wZ,wb]at h;obtain⟨rfl,rfl⟩:=h;have:=hn _ _ (wE ..) (by simpa using hf.1);simp[this,hf.2]
     . cases h
   . cases h
 | bslice sh z n ps =>
   have e:ps.map (fun p=>(p.1,Opd.val gl st'.fr p.2))=ps.map (fun p=>(p.1,Opd.val gl st.fr p.2)):=by apply wP;intro p hp;rw[hv p.2 (by simp only[MOp.opds,wS];exact⟨p,hp,rfl⟩)]
   simp only[af,e]at h ⊢;split at h
   . split at h
     . rename_i k hf;simp only[w0]at h;obtain⟨l,hl,h⟩:=h;split at h
       . rename_i hpl;simp only[wZ,wb]at h;obtain⟨rfl,rfl⟩:=h;have:=hn _ _ (wE ..) (by simpa using hf);simp[this,hl,hpl]
       . rename_i hpl;simp only[wZ,wb]at h;obtain⟨rfl,rfl⟩:=h;have:=hn _ _ (wE ..) (by simpa using hf);simp[this,hl,hpl]
     . cases h
   . cases h
 | s2b x =>
   have e3:=hv x (by simp[MOp.opds]);simp only[af,e3]at h ⊢;split at h
   . rename_i k l heq;split at h
     . rename_i hf;simp only[w9]at hf;simp only[wZ,wb]at h;obtain⟨rfl,rfl⟩:=h;have:=hn _ _ (wE ..) (by simpa using hf.1);simp only[heq,this,hf.2];rfl
     . cases h
   . cases h
 | mkslice sh z b l c =>
   have e3:=hv l (by simp[MOp.opds]);have e4:=hv c (by simp[MOp.opds]);simp only[af,e3,e4]at h ⊢;split at h
   . rename_i k k1 n1 k2 n2 h1 h2;split at h
     . rename_i hf;simp only[w9]at hf;simp only[wZ,wb]at h;obtain⟨rfl,rfl⟩:=h;have:=hn _ _ (wE ..) (by simpa using hf.1);simp only[h1,h2,this,hf.2];rfl
     . cases h
   . cases h
 | nap b x y =>
   have e3:=hv x (by simp[MOp.opds]);have e4:=hv y (by simp[MOp.opds]);have kx:=key x (by simp[MOp.opds]) rfl rfl rfl;have ky:=key y (by simp[MOp.opds]) rfl rfl rfl;simp only[af,e3,e4]at h ⊢;split at h
   . rename_i k q hvy;rw[hvy]at ky;simp only[AV.refs,wB,forall_eq]at ky;rw[wX]at h;obtain⟨hf,h⟩:=h;have hf':=hf;simp only[w9,w1]at hf'
     have hmem:∃o,(k,o)∈us:=by
      split at h
      . split at h
        . cases h;exact⟨_,wE ..⟩
        . split at h
          . rw[wX]at h;cases h.2;exact⟨_,wJ _ (wE ..)⟩
          . cases h
        . cases h
      . cases h
     obtain⟨o,ho⟩:=hmem;have hk':=hn k o ho hf'.1;have hf2:((st'.hp.get k).isNone&&decide (b<=1024))=true:=by rw[hk'];rw[hf'.1]at hf;exact hf
     rw[if_pos hf2,ky];split at h
     . split at h
       . exact h
       . rename_i kx' n hvx;rw[hvx]at kx;simp only[AV.refs,wB,forall_eq]at kx;rw[kx];exact h
       . cases h
     . cases h
   . cases h
 | ntk x =>
   have e3:=hv x (by simp[MOp.opds]);have kx:=key x (by simp[MOp.opds]) rfl rfl rfl;simp only[af,e3]at h ⊢;split at h
   . rename_i k q i hvx;rw[hvx]at kx;simp only[AV.refs,wB,forall_eq]at kx;rw[kx];split at h
     . split at h
       . rw[wX]at h;obtain⟨hf,h⟩:=h;have hf':=hf;simp only[w9,w1]at hf';obtain⟨o,ho⟩:∃o,(k,o)∈us:=by cases h;exact⟨_,wJ _ (wE ..)⟩
         have hk':=hn k o ho hf'.1;rw[if_pos (by rw[hk'];rw[hf'.1]at hf;exact hf)];exact h
       . cases h
     . cases h
   . cases h
 | mkarr sh z b l c =>
   have e3:=hv l (by simp[MOp.opds]);have e4:=hv c (by simp[MOp.opds]);simp only[af,e3,e4]at h ⊢;split at h
   . rename_i k k1 n1 k2 n2 h1 h2;split at h
     . rename_i hf;simp only[w9]at hf;simp only[wZ,wb]at h;obtain⟨rfl,rfl⟩:=h;have:=hn _ _ (wE ..) (by simpa using hf.1);simp only[h1,h2,this,hf.2];rfl
     . cases h
   . cases h
 | load ag n x =>have e3:=hv x (by simp[MOp.opds]);have kx:=key x (by simp[MOp.opds]) rfl rfl rfl;simp only[af,e3]at h ⊢;cases hx:Opd.val gl st.fr x<;>rw[hx]at h kx<;>(try simp only[AV.refs,wB,forall_eq]at kx)<;>(try simp only[kx]at h ⊢)<;>first|exact h|(rename_i s z;cases s<;>first|exact h|(cases z<;>exact h))
 | store n p x =>have e3:=hv p (by simp[MOp.opds]);have e4:=hv x (by simp[MOp.opds]);have kx:=key p (by simp[MOp.opds]) rfl rfl rfl;simp only[af,e3,e4]at h ⊢;cases hx:Opd.val gl st.fr p<;>rw[hx]at h kx<;>(try simp only[AV.refs,wB,forall_eq]at kx)<;>(try simp only[kx]at h ⊢)<;>first|exact h|(rename_i s z;cases s<;>first|exact h|(cases z<;>exact h))
 | b2s x =>have e3:=hv x (by simp[MOp.opds]);have kx:=key x (by simp[MOp.opds]) rfl rfl rfl;simp only[af,e3,eV kx]at h ⊢;exact h
 | idc x =>have e3:=hv x (by simp[MOp.opds]);have kx:=key x (by simp[MOp.opds]) rfl rfl rfl;simp only[af,e3]at h ⊢;cases hx:Opd.val gl st.fr x<;>rw[hx]at h kx<;>(try simp only[AV.refs,wB,forall_eq]at kx)<;>(try simp only[kx]at h ⊢)<;>first|exact h|(rename_i s z;cases s<;>first|exact h|(cases z<;>exact h))
 | arrAt n x =>have e3:=hv x (by simp[MOp.opds]);have kx:=key x (by simp[MOp.opds]) rfl rfl rfl;simp only[af,e3]at h ⊢;cases hx:Opd.val gl st.fr x<;>rw[hx]at h kx<;>(try simp only[AV.refs,wB,forall_eq]at kx)<;>(try simp only[kx]at h ⊢)<;>first|exact h|(rename_i s z;cases s<;>first|exact h|(cases z<;>exact h))
 | slSl e x lo hi mx =>
   have e1:lo.map (Opd.val gl st'.fr)=lo.map (Opd.val gl st.fr):=by cases lo with|none=>rfl|some y=>simp[hv y (by simp[MOp.opds])]
   have e2:hi.map (Opd.val gl st'.fr)=hi.map (Opd.val gl st.fr):=by cases hi with|none=>rfl|some y=>simp[hv y (by simp[MOp.opds])]
   have e3:=hv x (by simp[MOp.opds]);have kx:=key x (by simp[MOp.opds]) rfl rfl rfl
   cases mx with
   | none =>simp only[af,e1,e2,e3]at h ⊢;cases hx:Opd.val gl st.fr x<;>rw[hx]at h kx<;>(try simp only[AV.refs,wB,forall_eq]at kx)<;>(try simp only[kx]at h ⊢)<;>first|exact h|(rename_i s z;cases s<;>first|exact h|(cases z<;>exact h))|(rename_i k p o n;revert h;cases st.hp.get k with|none=>exact id|some b=>cases b<;>cases p<;>exact id)
   | some y =>have e4:=hv y (by simp[MOp.opds]);simp only[af,e1,e2,e3,e4]at h ⊢;cases hx:Opd.val gl st.fr x<;>rw[hx]at h kx<;>(try simp only[AV.refs,wB,forall_eq]at kx)<;>(try simp only[kx]at h ⊢)<;>first|exact h|(rename_i s z;cases s<;>first|exact h|(cases z<;>exact h))
 | slArr n e x lo hi =>
   have e1:lo.map (Opd.val gl st'.fr)=lo.map (Opd.val gl st.fr):=by cases lo with|none=>rfl|some y=>simp[hv y (by simp[MOp.opds])]
   have e2:hi.map (Opd.val gl st'.fr)=hi.map (Opd.val gl st.fr):=by cases hi with|none=>rfl|some y=>simp[hv y (by simp[MOp.opds])]
   have e3:=hv x (by simp[MOp.opds]);have kx:=key x (by simp[MOp.opds]) rfl rfl rfl;simp only[af,e1,e2,e3]at h ⊢;cases hx:Opd.val gl st.fr x<;>rw[hx]at h kx<;>(try simp only[AV.refs,wB,forall_eq]at kx)<;>(try simp only[kx]at h ⊢)<;>first|exact h|(rename_i s z;cases s<;>first|exact h|(cases z<;>exact h))
 | faddr i o x =>have e3:=hv x (by simp[MOp.opds]);have kx:=key x (by simp[MOp.opds]) rfl rfl rfl;simp only[af,e3]at h ⊢;cases hx:Opd.val gl st.fr x<;>rw[hx]at h kx<;>(try simp only[AV.refs,wB,forall_eq]at kx)<;>(try simp only[kx]at h ⊢)<;>first|exact h|(rename_i s z;cases s<;>first|exact h|(cases z<;>exact h))
 | iaddrA n e x i =>have e3:=hv x (by simp[MOp.opds]);have e4:=hv i (by simp[MOp.opds]);have kx:=key x (by simp[MOp.opds]) rfl rfl rfl;simp only[af,e3,e4]at h ⊢;generalize Opd.val gl st.fr i=vi at h ⊢;cases vi<;>cases hx:Opd.val gl st.fr x<;>rw[hx]at h kx<;>(try simp only[AV.refs,wB,forall_eq]at kx)<;>(try simp only[kx]at h ⊢)<;>first|exact h|(rename_i s z;cases s<;>first|exact h|(cases z<;>exact h))
 | iaddrS e x i =>have e3:=hv x (by simp[MOp.opds]);have e4:=hv i (by simp[MOp.opds]);have kx:=key x (by simp[MOp.opds]) rfl rfl rfl;simp only[af,e3,e4]at h ⊢;generalize Opd.val gl st.fr i=vi at h ⊢;cases vi<;>cases hx:Opd.val gl st.fr x<;>rw[hx]at h kx<;>(try simp only[AV.refs,wB,forall_eq]at kx)<;>(try simp only[kx]at h ⊢)<;>first|exact h|(rename_i s z;cases s<;>first|exact h|(cases z<;>exact h))
 | append sh b x y =>
   have e3:=hv x (by simp[MOp.opds]);have e4:=hv y (by simp[MOp.opds]);have kx:=key x (by simp[MOp.opds]) rfl rfl rfl;have ky:=eV (key y (by simp[MOp.opds]) rfl rfl rfl);simp only[iV,e3,e4,oT ky]at h ⊢;split at h
   . rename_i k shy ys hy;split at h
     . rename_i hf;rw[w9,w9]at hf;have hnone:st.hp.get k=none:=by simpa using hf.1.1
       have hmem:∃o,(k,o)∈us:=by
        split at h
        . split at h
          . simp only[wZ,wb]at h;obtain⟨_,rfl⟩:=h;exact⟨_,wE ..⟩
          . cases h
        . split at h
          . split at h
            . simp only[wZ,wb]at h;obtain⟨_,rfl⟩:=h;exact⟨_,wJ _ (wE ..)⟩
            . split at h
              . simp only[wZ,wb]at h;obtain⟨_,rfl⟩:=h;exact⟨_,wE ..⟩
              . cases h
          . cases h
        . cases h
       obtain⟨o,ho⟩:=hmem;have hn':=hn _ _ ho hnone;simp only[hn',Option.isNone_none,Bool.true_and,hf.1.2,hf.2,if_true];split at h
       . exact h
       . rename_i kx' n hx;simp only[hx,AV.refs,wB,forall_eq]at kx;simp only[hx,kx];exact h
       . cases h
     . cases h
   . cases h
 | copy sh x y =>
   have e3:=hv x (by simp[MOp.opds]);have e4:=hv y (by simp[MOp.opds]);have kx:=key x (by simp[MOp.opds]) rfl rfl rfl;have ky:=eV (key y (by simp[MOp.opds]) rfl rfl rfl);simp only[kF,e3,e4,oT ky]at h ⊢;generalize hq:uw st.hp (Opd.val gl st.fr y)=q at h ⊢;rcases q with _|⟨_,_⟩
   . have e:=uY (sh:=sh) (y:=Opd.val gl st.fr y) kx;cases hx:Opd.val gl st.fr x<;>rw[hx]at h e<;>(first|exact e.trans h)
   all_goals cases hx:Opd.val gl st.fr x<;>rw[hx]at h kx<;>(try simp only[AV.refs,wB,forall_eq]at kx)<;>(try simp only[kx]at h ⊢)<;>first|exact h|(rename_i s z;cases s<;>first|exact h|(cases z<;>exact h))
 | clear sh z x =>
   have e3:=hv x (by simp[MOp.opds]);have kx:=key x (by simp[MOp.opds]) rfl rfl rfl;simp only[af,e3]at h ⊢;split at h
   . rename_i k off len hx;rw[hx]at kx;simp only[AV.refs,wB,forall_eq]at kx;simp only[kx];exact h
   . cases h
 | capl x =>have e3:=hv x (by simp[MOp.opds]);simp only[af,e3]at h ⊢;exact h
 | appmk sh z b x y =>
   have e3:=hv x (by simp[MOp.opds]);have e4:=hv y (by simp[MOp.opds]);simp only[af,e3,e4]at h ⊢;split at h
   . rw[wX]at h;obtain⟨hc,h⟩:=h;simp only[wZ,wb]at h;obtain⟨rfl,rfl⟩:=h;have hc':=hc;simp only[w9,w1]at hc';have:=hn _ _ (wE ..) hc'.1.1;rw[hc'.1.1]at hc;rw[this,if_pos hc]
   . cases h
 | call f l md =>
   simp only[af]at h ⊢;split at h
   . rw[cd (l:=l) hv];refine oM h (fun hm a ha=> ?_) (fun hm k hk'=> ?_) hn
     . subst hm;exact hc rfl a fun k hk'=>by unfold bz MOp.opds;exact bL ha hk'
     . subst hm;exact hk rfl rfl k hk'
   . cases h
 | callv f l md =>
   have ef:=hv f (by simp[MOp.opds]);have el:=cd (l:=l) fun x hx=>hv x (by simp[MOp.opds,hx])
   simp only[af,ef,el]at h ⊢;split at h
   . rename_i k g caps hf;refine oM h (fun hm a ha=> ?_) (fun hm k hk'=> ?_) hn
     . subst hm
       exact hc rfl a fun k hk'=>by
        unfold bz MOp.opds;rw[vals,AV.refss,wC];rcases Ow ha with ha|ha
        . exact .inr (bL ha hk')
        . rw[hf,AV.refs];exact .inl (bL ha hk')
     . subst hm;refine hk rfl rfl k ?_;simp only[bz,hf,j1];exact hk'
   . rename_i k q hf;obtain⟨rfl,_⟩:=eI h;refine uW h (fun k hk'=> ?_) hn;refine hk rfl rfl k ?_;simp only[bz,hf,j1];exact hk'
   . cases h
theorem qa (h:af gl cl st d m=some (v,us)):∀k o,(k,o)∈us->st.hp.get k=none\/(bE m=true/\k∈bz gl st m):=by
 have nil:∀{a:AV} {b:AV} {us:Hp},(a,([]:Hp))=(b,us)->∀k o,(k,o)∈us->st.hp.get k=none\/(bE m=true/\k∈bz gl st m):=by intro a b us h k o hk;cases h;cases hk
 have one:∀{k:Nat} {o:OB},st.hp.get k=none\/(bE m=true/\k∈bz gl st m)->∀k' o',(k',o')∈([(k,o)]:Hp)->st.hp.get k'=none\/(bE m=true/\k'∈bz gl st m):=by intro k o h k' o' hk;simp only[wB,wb]at hk;rw[hk.1];exact h
 cases m with
 | mapop k kk z l =>
   simp only[af]at h;rcases jw h with ⟨_,q,_,h2,rfl⟩|⟨q,ys,_,hx,rfl|⟨o,hw,_,rfl⟩⟩
   . exact one (.inl h2)
   . intro k o hk;cases hk
   . refine one (.inr ⟨hw,?_⟩);rw[gU rfl];show q∈AV.refss (vals gl st.fr l);rw[hx];simp[AV.refss,AV.refs]
 | lits sh z n ps =>simp only[af,w0,wX,wZ,wb]at h;obtain⟨l,_,_,_,rfl⟩:=h;intro k o hk;cases hk
 | alloc sh z =>
   simp only[af]at h;split at h
   . split at h
     . rename_i k hf;cases h;exact one (.inl (by simpa using hf))
     . cases h
   . cases h
 | box sh x =>
   simp only[af]at h;split at h
   . split at h
     . rename_i k hf;simp only[w9]at hf;cases h;exact one (.inl (by simpa using hf.1))
     . cases h
   . cases h
 | bslice sh z n ps =>
   simp only[af]at h;split at h
   . split at h
     . rename_i k hf;simp only[w0]at h;obtain⟨l,hl,h⟩:=h;split at h
       . cases h;exact one (.inl (by simpa using hf))
       . cases h;exact one (.inl (by simpa using hf))
     . cases h
   . cases h
 | s2b x =>
   simp only[af]at h;split at h
   . split at h
     . rename_i hf;simp only[w9]at hf;cases h;exact one (.inl (by simpa using hf.1))
     . cases h
   . cases h
 | mkslice sh z b l c =>
   simp only[af]at h;split at h
   . split at h
     . rename_i hf;simp only[w9]at hf;cases h;exact one (.inl (by simpa using hf.1))
     . cases h
   . cases h
 | nap b x y =>
   simp only[af]at h;split at h
   . rw[wX]at h;obtain⟨hf,h⟩:=h;simp only[w9,w1]at hf;split at h
     . split at h
       . cases h;exact one (.inl hf.1)
       . rename_i kx n hvx;split at h
         . rw[wX]at h;obtain⟨_,h⟩:=h;cases h;intro k o hk;simp only[wD,wb,wF,or_false]at hk;rcases hk with ⟨rfl,_⟩|⟨rfl,_⟩
           . exact .inr ⟨rfl,dw (x:=x) (by simp[MOp.opds]) (by simp[hvx,AV.refs])⟩
           . exact .inl hf.1
         . cases h
       . cases h
     . cases h
   . cases h
 | ntk x =>
   simp only[af]at h;split at h
   . rename_i k q i hvx;split at h
     . split at h
       . rw[wX]at h;obtain⟨hf,h⟩:=h;simp only[w9,w1]at hf;cases h;intro k o hk;simp only[wD,wb,wF,or_false]at hk;rcases hk with ⟨rfl,_⟩|⟨rfl,_⟩
         . exact .inr ⟨rfl,dw (x:=x) (by simp[MOp.opds]) (by simp[hvx,AV.refs])⟩
         . exact .inl hf.1
       . cases h
     . cases h
   . cases h
 | mkarr sh z b l c =>
   simp only[af]at h;split at h
   . split at h
     . rename_i hf;simp only[w9]at hf;cases h;exact one (.inl (by simpa using hf.1))
     . cases h
   . cases h
 | store n p x =>
   simp only[af]at h;split at h
   . rename_i k q hp;have hk:k∈bz gl st (.store n p x):=dw (x:=p) (by simp[MOp.opds]) (by simp[hp,AV.refs]);split at h
     . split at h
       . split at h
         . simp only[wY,wb]at h;obtain⟨a',_,_,rfl⟩:=h;exact one (.inr ⟨rfl,hk⟩)
         . cases h
       . cases h
     . split at h
       . split at h
         . simp only[wY,wb]at h;obtain⟨a',_,_,rfl⟩:=h;exact one (.inr ⟨rfl,hk⟩)
         . cases h
       . cases h
     . cases h
   . cases h
 | idc x =>
   simp only[af]at h;split at h
   . rename_i k p o l hx;have hk:k∈bz gl st (.idc x):=dw (x:=x) (by simp[MOp.opds]) (by simp[hx,AV.refs]);split at h
     . cases h;exact one (.inr ⟨rfl,hk⟩)
     . cases h
   . cases h
 | append sh b x y =>
   rw[iV]at h;split at h
   . split at h
     . rename_i k shy ys hy hf;rw[w9,w9]at hf;have hnone:st.hp.get k=none:=by simpa using hf.1.1
       split at h
       . split at h
         . cases h;exact one (.inl hnone)
         . cases h
       . rename_i kx n hx;have hk:kx∈bz gl st (.append sh b x y):=dw (x:=x) (by simp[MOp.opds]) (by simp[hx,AV.refs]);split at h
         . split at h
           . cases h;intro k' o' hm;rcases wD.1 hm with hm|hm
             . cases hm;exact .inr ⟨rfl,hk⟩
             . exact one (.inl hnone) k' o' hm
           . split at h
             . cases h;intro k' o' hm;rcases wD.1 hm with hm|hm
               . cases hm;exact .inl hnone
               . exact one (.inr ⟨rfl,hk⟩) k' o' hm
             . cases h
         . cases h
       . cases h
     . cases h
   . cases h
 | copy sh x y =>
   rw[kF]at h;split at h
   . rename_i k p off len shy ys hx hy;have hk:k∈bz gl st (.copy sh x y):=dw (x:=x) (by simp[MOp.opds]) (by simp[hx,AV.refs]);split at h
     . dsimp only at h;split at h
       . split at h
         . cases h;exact one (.inr ⟨rfl,hk⟩)
         . cases h
       . split at h
         . split at h
           . simp only[wY,wb]at h;obtain⟨a',_,_,rfl⟩:=h;exact one (.inr ⟨rfl,hk⟩)
           . cases h
         . cases h
       . cases h
     . cases h
   . obtain⟨k,o,rfl,hk,_⟩:=oO h;exact one (.inr ⟨rfl,dw (x:=x) (by simp[MOp.opds]) hk⟩)
   . cases h
 | clear sh z x =>
   simp only[af]at h;split at h
   . rename_i k off len hx;have hk:k∈bz gl st (.clear sh z x):=dw (x:=x) (by simp[MOp.opds]) (by simp[hx,AV.refs]);split at h
     . split at h
       . cases h;exact one (.inr ⟨rfl,hk⟩)
       . cases h
     . cases h
   . cases h
 | appmk sh z b x y =>
   simp only[af]at h;split at h
   . split at h
     . rename_i hf;simp only[w9]at hf;cases h;exact one (.inl (by simpa using hf.1.1))
     . cases h
   . cases h
 | call f l md =>
   simp only[af]at h;split at h
   . intro k o hk;rcases qD h k o hk with h1|⟨rfl,h1⟩
     . exact .inl h1
     . exact .inr ⟨rfl,h1⟩
   . cases h
 | callv f l md =>
   simp only[af]at h;split at h
   . rename_i k0 g caps hf;intro k o hk;rcases qD h k o hk with h1|⟨rfl,h1⟩
     . exact .inl h1
     . refine .inr ⟨rfl,?_⟩;simp only[bz,hf,j1];exact h1
   . rename_i k0 q hf;intro k o hk;have hm:=(eI h).1;subst hm;rcases yS h k o hk with h1|h1
     . exact .inl h1
     . refine .inr ⟨rfl,?_⟩;simp only[bz,hf,j1];exact h1
   . cases h
 | mov x=>simp only[af,wZ]at h;exact nil h
 | bin o x y=>simp only[af,wY]at h;obtain⟨r,_,h⟩:=h;exact nil h
 | binB o x y=>simp only[af,wY]at h;obtain⟨r,_,h⟩:=h;exact nil h
 | _ =>
   simp only[af]at h
   repeat' (first|(cases h;done)|(simp only[wZ]at h;exact nil h)|(simp only[wY]at h;obtain⟨r,_,h⟩:=h;exact nil h)|split at h|(simp only[w0]at h;obtain⟨r,_,h⟩:=h))
end
section
variable {gl :Gl} {cl:Cl} {st st':St} {o u:FO}
theorem AV.plain_refs {a:AV}(h:a.plain=true):a.refs=[]:=by cases a<;>first|rfl|cases h
theorem sK :∀(p:List Nat) (a x:AV),a.wf->a.nav p=some x->x.wf/\∀k∈x.refs,k∈a.refs
 | [],a,x,hw,h=>by
   have:a=x:=by cases a<;>simpa[AV.nav]using h
   subst this;exact⟨hw,fun k hk=>hk⟩
 | i::p,a,x,hw,h=>by
   cases a with
   | agg l =>simp only[AV.nav,w0]at h;obtain⟨y,hy,h⟩:=h;rw[AV.wf,AV.wfp_iff]at hw;have hm:=hw y (wO hy);obtain⟨h1,h2⟩:=sK p y x hm.2 h;refine⟨h1,fun k hk=> ?_⟩;have:=h2 k hk;rw[AV.plain_refs hm.1]at this;cases this
   | aggR l =>simp only[AV.nav,w0]at h;obtain⟨y,hy,h⟩:=h;rw[AV.wf,AV.wfs_iff]at hw;obtain⟨h1,h2⟩:=sK p y x (hw y (wO hy)) h;exact⟨h1,fun k hk=>by rw[AV.refs];exact bL (wO hy) (h2 k hk)⟩
   | _=>simp[AV.nav]at h
structure Closed (st:St):Prop where
 fr:∀i,∀k∈(st.fr.get i).refs,st.hp.get k≠none
 ob:∀k sh a,st.hp.get k=some (.fix sh a)->a.wf/\∀j∈a.refs,st.hp.get j≠none
 all:∀k o,st.hp.get k=some o->∀j∈bO o,st.hp.get j≠none
theorem StOk.closed {H:aT}{G:Gh}{tmps:Array Value}(h:StOk H G st tmps):Closed st:=by
 have hfix:∀k sh a,st.hp.get k=some (.fix sh a)->∀j∈a.refs,st.hp.get j≠none:=fun k sh a hk j hj=>by obtain⟨r,hr⟩:=h.inv.fix_refs hk j hj;obtain⟨o,ho⟩:=h.inv.reg_get hr;simp[ho]
 refine⟨fun i k hk=> ?_,fun k sh a hk=>⟨?_,fun j hj=> ?_⟩,fun k o hk j hj=> ?_⟩
 rotate_left 3
 . cases o with
   | fix sh a=>exact hfix k sh a hk j hj
   | lp rid vals s =>obtain⟨b,rc,info,_,_,_,_,hv⟩:=h.inv.obs k _ hk;obtain⟨x,hx,hj⟩:=iW hj;obtain⟨i,hi,rfl⟩:=wH hx;obtain⟨r,hr⟩:=(hv.get i hi).known_refs j hj;obtain⟨o,ho⟩:=h.inv.reg_get hr;simp[ho]
   | nest els =>obtain⟨i,n,hi⟩:=ir hj;obtain⟨b,cap,X,c,e,fz,B,_,_,_,_,_,hc⟩:=h.inv.obs k _ hk;obtain⟨v,_,hv⟩:=hc.nm i j n hi;obtain⟨r,hr⟩:=hv.known j (by simp[AV.refs]);obtain⟨o,ho⟩:=h.inv.reg_get hr;simp[ho]
   | _=>cases hj
 . obtain⟨r,hr⟩:=(h.fr i).known_refs k hk;obtain⟨o,ho⟩:=h.inv.reg_get hr;simp[ho]
 . obtain⟨b,c,e,fz,_,_,_,_,_,hw,_⟩:=h.inv.obs k _ hk;exact hw
 . obtain⟨r,hr⟩:=h.inv.fix_refs hk j hj;obtain⟨o,ho⟩:=h.inv.reg_get hr;simp[ho]
theorem na {hp hp':Hp}(hob:∀k sh a,hp.get k=some (.fix sh a)->a.wf/\∀j∈a.refs,hp.get j≠none)(hag:∀k,hp.get k≠none->hp'.get k=hp.get k) :
  ∀(n:Nat) (a:AV),(∀k∈a.refs,hp.get k≠none)->aW hp' n a=aW hp n a
 | 0,a,_=>by simp[aW]
 | n+1,a,ha=>by
   have ih:=na hob hag n;simp only[aW];split
   . rfl
   . split
     . rename_i k p off len;rw[eV fun k' hk'=>hag k' (ha k' hk')]
     . rename_i k p _;have hk:=ha k (by simp[AV.refs]);rw[hag k hk];split
       . rename_i sh b hb;split
         . rename_i s x hs hx;have h1:=sK _ _ _ (hob k sh b hb).1 hx;rw[ih x fun j hj=>(hob k sh b hb).2 j (h1.2 j hj)]
         . rfl
       . rfl
     . rename_i l;rw[jO fun x hx=>ih x fun k hk=>ha k (by rw[AV.refs];exact bL hx hk)]
     . rename_i f l;rw[jO fun x hx=>ih x fun k hk=>ha k (by rw[AV.refs];exact bL hx hk)]
     . rfl
theorem AD {hp hp':Hp}(hag:∀k,hp'.get k=hp.get k):∀(n:Nat) (a:AV),aW hp' n a=aW hp n a
 | 0,a=>by simp[aW]
 | n+1,a=>by have ih:=AD hag n;have ih':aW hp' n=aW hp n:=funext ih;simp only[aW,ih',hag];rw[show bn hp'=bn hp from funext fun a=>eV fun k _=>hag k]
abbrev Tr :=AV×Hp×List Nat
def FO.wants (fr:Fr)(o:FO):Option Bool :=
 match o.g with
 | none=>some true
 | some (c,want) =>
   match fr.get c with
   | .bool t=>some (t==want)
   | .tup []=>some false
   | _=>none
def foStep (gl:Gl)(cl:Cl)(st:St)(o:FO):Option Tr :=
 match o.wants st.fr with
 | none=>none
 | some true=>(af gl cl st o.d o.m).map fun r=>(r.1,r.2,bz gl st o.m)
 | some false=>some (.tup [],[],[])
def St.after (st:St)(o:FO)(t:Tr):St:=st.upd o.d t.1 t.2.1
theorem lA (l:List FO):cj gl cl (o::l) st=(foStep gl cl st o).bind fun t=>(cj gl cl l (st.after o t)).map fun q=>(q.1,t.2.2::q.2):=by
 obtain⟨d,m,g⟩:=o
 cases g with
 | none =>simp only[cj,foStep,FO.wants,St.after];rcases af gl cl st d m with _|⟨v,us⟩<;>rfl
 | some q =>
   obtain⟨c,want⟩:=q;simp only[cj,foStep,FO.wants]
   cases st.fr.get c with
   | bool t =>
     by_cases h:t=want
     . subst h;simp only[if_true,beq_self_eq_true,St.after];rcases af gl cl st d m with _|⟨v,us⟩<;>rfl
     . have:(t==want)=false:=by simpa using h
       simp[h,this,St.after]
   | tup l=>cases l<;>simp[St.after]
   | _=>simp
theorem I3 {x:Opd}{i:Nat}(hx:x∈o.m.opds)(hi:x= .t i):i∈o.uses:=by subst hi;unfold FO.uses;exact wN _ (List.mem_filterMap.2 ⟨.t i,hx,rfl⟩)
theorem Cu {c:Nat}{w:Bool}(h:o.g=some (c,w)):c∈o.uses:=by unfold FO.uses;rw[h];exact wK _ (by simp)
theorem nM (h:∀i∈o.uses,st'.fr.get i=st.fr.get i):∀x∈o.m.opds,x.val gl st'.fr=x.val gl st.fr:=by
 intro x hx
 cases x with
 | t i=>exact h i (I3 hx rfl)
 | _=>rfl
theorem BJ (h:∀i∈o.uses,st'.fr.get i=st.fr.get i):o.wants st'.fr=o.wants st.fr:=by
 unfold FO.wants
 cases hg:o.g with
 | none=>rfl
 | some q=>obtain⟨c,w⟩:=q;simp only[h c (Cu hg)]
theorem kR {hp:Hp}(hob:∀k o,hp.get k=some o->∀j∈bO o,hp.get j≠none):∀{n:Nat} {l acc:List Nat},(∀k∈l,hp.get k≠none)->(∀k∈acc,hp.get k≠none)->∀k∈eo hp n l acc,hp.get k≠none
 | 0,l,acc,_,ha=>ha
 | n+1,[],acc,_,ha=>ha
 | n+1,k::t,acc,hl,ha=>by
   rw[eo];split
   . exact kR hob (fun j hj=>hl j (by simp[hj])) ha
   . refine kR hob (fun j hj=> ?_) (fun j hj=> ?_)
     . rcases wC.1 hj with hj|hj
       . cases ho:hp.get k with
         | none=>rw[ho]at hj;cases hj
         | some o =>rw[ho]at hj;exact hob k o ho j hj
       . exact hl j (by simp[hj])
     . rcases wC.1 hj with hj|hj
       . exact ha j hj
       . rw[wB]at hj;subst hj;exact hl j (by simp)
theorem pt {hp hp':Hp}(hob:∀k o,hp.get k=some o->∀j∈bO o,hp.get j≠none):∀{n:Nat} {l acc:List Nat},(∀k∈l,hp.get k≠none)->(∀k∈acc,hp.get k≠none) ->
  (∀k∈eo hp' n l acc,hp.get k≠none->hp'.get k=hp.get k)->∀k∈eo hp' n l acc,hp.get k≠none
 | 0,l,acc,_,ha,_=>ha
 | n+1,[],acc,_,ha,_=>ha
 | n+1,k::t,acc,hl,ha,hs=>by
   rw[eo]at hs ⊢;split
   . rename_i hc;rw[if_pos hc]at hs;exact pt hob (fun j hj=>hl j (by simp[hj])) ha hs
   . rename_i hc;rw[if_neg hc]at hs;have hk:hp'.get k=hp.get k:=hs k (reach_congr.reach_acc (by simp)) (hl k (by simp));refine pt hob (fun j hj=> ?_) (fun j hj=> ?_) hs
     . rcases wC.1 hj with hj|hj
       . rw[hk]at hj
         cases ho:hp.get k with
         | none=>rw[ho]at hj;cases hj
         | some o =>rw[ho]at hj;exact hob k o ho j hj
       . exact hl j (by simp[hj])
     . rcases wC.1 hj with hj|hj
       . exact ha j hj
       . rw[wB]at hj;subst hj;exact hl j (by simp)
theorem sE (hC:Closed st)(hc:o.m.cOk=true):∀k∈AV.refss (vals gl st.fr o.m.opds),st.hp.get k≠none:=by
 intro k hk;obtain⟨x,hx,hk⟩:=r9.1 hk;unfold MOp.cOk at hc;rw[wM]at hc;have:=hc x hx
 cases x with
 | t i=>exact hC.fr i k hk
 | c a=>simp only[List.isEmpty_iff]at this;rw[Opd.val,this]at hk;cases hk
 | g i =>simp only[Opd.val]at hk;split at hk<;>simp[AV.refs]at hk
 | f i=>simp[Opd.val,AV.refs,AV.refss]at hk
def fI (gl:Gl)(fr:Fr):MOp->List Nat
 | .call _ l _=>AV.refss (vals gl fr l)
 | .callv f l _=>j1 (f.val gl fr) (vals gl fr l)
 | _=>[]
theorem nZ :∀(l m:List AV),AV.refss (l++m)=AV.refss l++AV.refss m
 | [],m=>rfl
 | a::l,m=>by rw[wU,AV.refss,AV.refss,nZ l m,List.append_assoc]
theorem Dd {f:AV}{args:List AV}:∀k∈j1 f args,k∈f.refs\/k∈AV.refss args:=by
 intro k hk;unfold j1 at hk;split at hk
 . rcases wD.1 hk with rfl|hk
   . exact .inl (by simp[AV.refs])
   . exact .inr hk
 . unfold cvA at hk;split at hk<;>simp only[nZ,wC]at hk
   . exact hk.symm.imp (fun h=>by rw[AV.refs];exact h) id
   . exact hk.imp (fun h=>by rw[AV.refs];exact h) id
 . exact .inr hk
theorem oB {m:MOp}{fr:Fr}:∀k∈fI gl fr m,k∈AV.refss (vals gl fr m.opds):=by
 intro k hk
 cases m with
 | call f l md=>exact hk
 | callv f l md =>simp only[fI]at hk;simp only[MOp.opds,vals,AV.refss,wC];exact Dd k hk
 | _=>cases hk
theorem tn {m:MOp}(h:isImp m=true):bz gl st m=aZ st.hp (fI gl st.fr m):=by
 cases m with
 | call f l md=>cases md<;>first|rfl|cases h
 | callv f l md=>cases md<;>first|rfl|cases h
 | _=>cases h
theorem ti (hC:Closed st)(hc:o.m.cOk=true):∀k∈bz gl st o.m,st.hp.get k≠none:=by
 have h0:=sE (gl:=gl) hC hc
 cases hi:isImp o.m with
 | false=>rw[gU hi];exact h0
 | true =>rw[tn hi];exact kR hC.all (fun k hk=>h0 k (oB k hk)) fun k hk=>by cases hk
theorem yJ {t:Tr}(h:foStep gl cl st o=some t):∀k b,(k,b)∈t.2.1->st.hp.get k=none\/(bE o.m=true/\k∈t.2.2):=by
 unfold foStep at h;split at h
 . cases h
 . simp only[wY]at h;obtain⟨r,hr,rfl⟩:=h;exact qa (v:=r.1) (us:=r.2) hr
 . cases h;intro k b hk;cases hk
theorem J5 {t:Tr}(hC:Closed st)(hc:o.m.cOk=true)(h:foStep gl cl st o=some t):∀k∈t.2.2,st.hp.get k≠none:=by
 unfold foStep at h;split at h
 . cases h
 . simp only[wY]at h;obtain⟨r,hr,rfl⟩:=h;exact ti hC hc
 . cases h;intro k hk;cases hk
theorem tz {m:MOp}(h:isImp m=true):iv m=true/\ev m=false:=by
 cases m with
 | call f l md=>cases md<;>first|exact⟨rfl,rfl⟩|cases h
 | callv f l md=>cases md<;>first|exact⟨rfl,rfl⟩|cases h
 | _=>cases h
theorem tH {t:Tr}(h:foStep gl cl st o=some t)(hu:∀i∈o.uses,st'.fr.get i=st.fr.get i)
  (hk:iv o.m=true->ev o.m=false->∀k∈t.2.2,st'.hp.get k=st.hp.get k)
  (hc:ev o.m=true->∀a:AV,(∀k∈a.refs,k∈t.2.2)->aW st'.hp 4 a=aW st.hp 4 a)
  (hn:∀k b,(k,b)∈t.2.1->st.hp.get k=none->st'.hp.get k=none):foStep gl cl st' o=some t:=by
 unfold foStep at h ⊢;rw[BJ hu];split at h
 . cases h
 . simp only[wY]at h;obtain⟨r,hr,rfl⟩:=h;rw[xF (v:=r.1) (us:=r.2) hr (nM hu) hk hc hn];simp[ow (nM hu) fun hi=>hk (tz hi).1 (tz hi).2]
 . exact h
def Disj (a b:List Nat):Prop:=∀x∈a,x∉b
theorem La {a b:List Nat}:uX a b=true↔Disj a b:=by unfold uX Disj;simp
structure Apart (u o:FO):Prop where
 use:∀d,u.d=some d->d∉o.uses
 use':∀d,o.d=some d->d∉u.uses
 dst:∀d,u.d=some d->o.d≠some d
 wc:bE u.m=true->ev o.m=false
 cw:ev u.m=true->bE o.m=false
theorem FO.apart_spec (h:u.apart o=true):Apart u o:=by
 unfold FO.apart at h;simp only[w9,Bool.not_eq_true',Bool.and_eq_false_iff]at h;obtain⟨⟨⟨h1,h2⟩,h3⟩,h4⟩:=h;refine⟨fun d hd=> ?_,fun d hd=> ?_,fun d hd=> ?_,fun hw=> ?_,fun hw=> ?_⟩
 . rw[hd]at h1;simp at h1;exact h1.1
 . rw[hd]at h2;simp at h2;exact h2
 . rw[hd]at h1;simp at h1;exact h1.2
 . rcases h3 with h3|h3
   . rw[hw]at h3;cases h3
   . exact h3
 . rcases h4 with h4|h4
   . rw[hw]at h4;cases h4
   . exact h4
theorem Apart.symm (h:Apart u o):Apart o u:=by
 refine⟨h.use',h.use,fun d hd hu=>h.dst d hu hd,fun hw=> ?_,fun hw=> ?_⟩
 . cases hc:ev u.m with
   | false=>rfl
   | true=>rw[h.cw hc]at hw;cases hw
 . cases hc:bE u.m with
   | false=>rfl
   | true=>rw[h.wc hc]at hw;cases hw
theorem Disj.symm {a b:List Nat}(h:Disj a b):Disj b a:=fun x hx hy=>h x hy hx
theorem BF {m:MOp}(h:bE m=true):iv m=true:=by
 cases m with
 | call f l md=>rfl
 | callv f l md=>rfl
 | _=>first|rfl|cases h
structure Eqv (s t:St):Prop where
 fr:∀i,s.fr.get i=t.fr.get i
 hp:∀k,s.hp.get k=t.hp.get k
theorem Eqv.refl (s:St):Eqv s s:=⟨fun _=>rfl,fun _=>rfl⟩
theorem Eqv.symm {s t:St}(h:Eqv s t):Eqv t s:=⟨fun i=>(h.fr i).symm,fun k=>(h.hp k).symm⟩
theorem Eqv.trans {s t r:St}(h:Eqv s t)(h':Eqv t r):Eqv s r:=⟨fun i=>(h.fr i).trans (h'.fr i),fun k=>(h.hp k).trans (h'.hp k)⟩
theorem gF (t:Tr)(i:Nat):(st.after o t).fr.get i=if o.d=some i then t.1 else st.fr.get i:=by rw[St.after,St.upd,xB]
theorem dt (t:Tr)(k:Nat):(st.after o t).hp.get k=(match Hp.get t.2.1 k with|some b=>some b|none=>st.hp.get k):=Hp.get_append _ _ _
theorem Eqv.after {s r:St}(h:Eqv s r)(o:FO)(t:Tr):Eqv (s.after o t) (r.after o t) :=
 ⟨fun i=>by rw[gF,gF,h.fr],fun k=>by rw[dt,dt,h.hp]⟩
theorem Eqv.foStep {s r:St}(h:Eqv s r){t:Tr}(hs:foStep gl cl s o=some t):foStep gl cl r o=some t :=
 tH hs (fun i _=>(h.fr i).symm) (fun _ _ k _=>(h.hp k).symm) (fun _ a _=>AD (fun k=>(h.hp k).symm) 4 a) fun k b _ hn=>(h.hp k).symm.trans hn
theorem CV {us:Hp}{k:Nat}{b:OB}(h:(k,b)∈us):Hp.get us k≠none:=by
 induction us with
 | nil=>cases h
 | cons x us ih =>
   obtain⟨j,c⟩:=x;simp only[Hp.get];split
   . simp
   . rename_i hne;rcases wD.1 h with h|h
     . cases h;exact absurd rfl hne
     . exact ih h
theorem N5 (hC:Closed st)(hcu:u.m.cOk=true)(hco:o.m.cOk=true)(ha:Apart u o){tu to:Tr}(hd:u.clash o=true->Disj tu.2.2 to.2.2)
  (hu:foStep gl cl st u=some tu) (ho:foStep gl cl (st.after u tu) o=some to) :
  foStep gl cl st o=some to/\foStep gl cl (st.after o to) u=some tu/\Eqv ((st.after u tu).after o to) ((st.after o to).after u tu):=by
 have husk:=yJ hu;have hosk:=yJ ho;have huex:=J5 hC hcu hu;have fr1:∀i∈o.uses,st.fr.get i=(st.after u tu).fr.get i:=fun i hi=>by rw[gF,if_neg];intro h;exact ha.use i h hi
 have hnoU:∀k,st.hp.get k≠none->(bE u.m=true->k∉tu.2.2)->Hp.get tu.2.1 k=none:=fun k hk hw=>by
  refine Hp.get_none fun b hb=> ?_
  rcases husk k b hb with h|⟨h1,h2⟩
  . exact hk h
  . exact hw h1 h2
 have hkeys:∀k∈to.2.2,st.hp.get k≠none:=by
  have ho':=ho;unfold foStep at ho';split at ho'
  . cases ho'
  . simp only[wY]at ho';obtain⟨r,hr,e⟩:=ho';have e2:to.2.2=bz gl (st.after u tu) o.m:=by rw[<-e]
    rw[e2];have h0:=sE (gl:=gl) hC hco
    cases hi:isImp o.m with
    | false =>
      intro k hk;have:k∈bz gl st o.m:=by rw[ow (nM fr1) (by rw[hi];intro h;cases h)];exact hk
      exact ti hC hco k this
    | true =>
      have hv:fI gl (st.after u tu).fr o.m=fI gl st.fr o.m:=by
       have hvu:=nM (gl:=gl) (st:=st.after u tu) (st':=st) fr1
       cases hm:o.m with
       | call f l md=>rw[hm]at hvu;simp only[fI];rw[cd (l:=l) fun x hx=>(hvu x hx).symm]
       | callv f l md =>rw[hm]at hvu;simp only[fI];rw[cd (l:=l) fun x hx=>(hvu x (by simp[MOp.opds,hx])).symm,hvu f (by simp[MOp.opds])]
       | _=>rfl
      have e3:bz gl (st.after u tu) o.m=aZ (st.after u tu).hp (fI gl st.fr o.m):=by rw[tn hi,hv]
      have hsame:∀k∈aZ (st.after u tu).hp (fI gl st.fr o.m),st.hp.get k≠none->(st.after u tu).hp.get k=st.hp.get k:=by intro k hk hex;rw[dt,hnoU k hex fun hw hku=>hd (by unfold FO.clash;simp[hw,(tz hi).1]) k hku (by rw[e2,e3];exact hk)]
      rw[e3];exact pt hC.all (fun k hk=>h0 k (oB k hk)) (fun k hk=>by cases hk) hsame
  . cases ho';intro k hk;cases hk
 have step1:foStep gl cl st o=some to:=by
  refine tH ho fr1 (fun hh _ k hk=> ?_) (fun hcall a hka=> ?_) (fun k b _ hn=> ?_)
  . rw[dt,hnoU k (hkeys k hk) fun hw hku=>hd (by unfold FO.clash;simp[hw,hh]) k hku hk]
  . refine(na hC.ob (fun k hk=> ?_) 4 a fun k hk=>hkeys k (hka k hk)).symm;rw[dt,hnoU k hk fun hw=>by have:=ha.wc hw;rw[hcall]at this;cases this]
  . rw[dt]at hn;split at hn
    . cases hn
    . exact hn
 have hboth:∀k b,(k,b)∈to.2.1->Hp.get tu.2.1 k=none:=fun k b hb=>by
  rcases hosk k b hb with h|⟨hw,hk⟩
  . rw[dt]at h;split at h
    . cases h
    . assumption
  . exact hnoU k (hkeys k hk) fun hw' hk'=>hd (by unfold FO.clash;simp[hw',BF hw]) k hk' hk
 have hosk1:=yJ step1;refine⟨step1,?_,⟨fun i=> ?_,fun k=> ?_⟩⟩
 . have hnoO:∀k,st.hp.get k≠none->(bE o.m=true->k∉to.2.2)->Hp.get to.2.1 k=none:=fun k hk hw=>by
    refine Hp.get_none fun b hb=> ?_
    rcases hosk1 k b hb with h|⟨h1,h2⟩
    . exact hk h
    . exact hw h1 h2
   refine tH hu (fun i hi=> ?_) (fun hh _ k hk=> ?_) (fun hcall a hka=> ?_) (fun k b hb hn=> ?_)
   . rw[gF,if_neg];intro h;exact ha.use' i h hi
   . rw[dt,hnoO k (huex k hk) fun hw hko=>hd (by unfold FO.clash;simp[hw,hh]) k hk hko]
   . refine na hC.ob (fun k hk=> ?_) 4 a fun k hk=>huex k (hka k hk)
     rw[dt,hnoO k hk fun hw=>by have:=ha.cw hcall;rw[hw]at this;cases this]
   . rw[dt]
     cases hg:Hp.get to.2.1 k with
     | none=>exact hn
     | some c=>exact absurd (hboth k c (Hp.get_mem hg)) (CV hb)
 . rw[gF,gF,gF,gF];by_cases h:u.d=some i
   . rw[if_pos h,if_neg (ha.dst i h)];simp[h]
   . simp[h]
 . rw[dt,dt,dt,dt]
   cases h1:Hp.get to.2.1 k with
   | none=>cases h2:Hp.get tu.2.1 k<;>rfl
   | some c=>rw[hboth k c (Hp.get_mem h1)]
variable {fo :Nat->FO} {T:Nat->Tr}
def OkRun (gl:Gl)(cl:Cl)(fo:Nat->FO)(T:Nat->Tr):List Nat->St->Prop
 | [],_=>True
 | i::l,st=>foStep gl cl st (fo i)=some (T i)/\OkRun gl cl fo T l (st.after (fo i) (T i))
def Aa (fo:Nat->FO)(T:Nat->Tr):List Nat->St->St
 | [],st=>st
 | i::l,st=>Aa fo T l (st.after (fo i) (T i))
theorem OkRun.eqv :∀{l:List Nat} {s r:St},Eqv s r->OkRun gl cl fo T l s->OkRun gl cl fo T l r/\Eqv (Aa fo T l s) (Aa fo T l r)
 | [],_,_,h,_=>⟨trivial,h⟩
 | i::l,s,r,h,ho=>by obtain⟨h1,h2⟩:=OkRun.eqv (h.after (fo i) (T i)) ho.2;exact⟨⟨h.foStep ho.1,h1⟩,h2⟩
theorem sL {S:St->Prop}{j:Nat}{post:List Nat}(hS:∀s,S s->Closed s)(hcj:(fo j).m.cOk=true) :
  ∀(pre:List Nat) (st:St),(∀i∈pre,∀s,S s->foStep gl cl s (fo i)=some (T i)->S (s.after (fo i) (T i))) ->
   (∀i∈pre,(fo i).m.cOk=true/\Apart (fo i) (fo j)/\((fo i).clash (fo j)=true->Disj (T i).2.2 (T j).2.2))->S st->OkRun gl cl fo T (pre++j::post) st ->
   OkRun gl cl fo T (j::(pre++post)) st/\Eqv (Aa fo T (pre++j::post) st) (Aa fo T (j::(pre++post)) st)
 | [],st,_,_,_,h=>⟨h,.refl _⟩
 | i::pre,st,hstep,hap,hs,h=>by obtain⟨h1,h2⟩:=h;obtain⟨⟨g1,g2⟩,g3⟩:=sL (S:=S) hS hcj pre _ (fun p hp=>hstep p (by simp[hp])) (fun p hp=>hap p (by simp[hp])) (hstep i (by simp) st hs h1) h2;obtain⟨hc,ha,hd⟩:=hap i (by simp);obtain⟨k1,k2,k3⟩:=N5 (hS st hs) hc hcj ha hd h1 g1;obtain⟨m1,m2⟩:=OkRun.eqv k3 g2;exact⟨⟨k1,k2,m1⟩,g3.trans m2⟩
theorem tR :∀(l:List FO) (st st':St) (ks:List (List Nat)) (off:Nat),cj gl cl l st=some (st',ks) ->
  ∃trs:List Tr,trs.length=l.length/\ks=trs.map (·.2.2)/\∀(fo:Nat->FO) (T:Nat->Tr),(∀i (h:i<l.length),fo (off+i)=l[i]) ->
   (∀i (h:i<trs.length),T (off+i)=trs[i])->OkRun gl cl fo T (wW off l.length) st/\Aa fo T (wW off l.length) st=st'
 | [],st,st',ks,off,h=>by simp only[cj,wZ,wb]at h;obtain⟨rfl,rfl⟩:=h;exact⟨[],rfl,rfl,fun _ _ _ _=>⟨trivial,rfl⟩⟩
 | o::l,st,st',ks,off,h=>by
   rw[lA]at h;simp only[w0,wY,wb]at h;obtain⟨t,ht,⟨s2,ks2⟩,h2,rfl,rfl⟩:=h;obtain⟨trs,g1,g2,g3⟩:=tR l _ _ _ (off+1) h2;refine⟨t::trs,by simp[g1],by simp[g2],fun fo T hf hT=> ?_⟩;have e1:fo off=o:=hf 0 (by simp);have e2:T off=t:=hT 0 (by simp);obtain⟨k1,k2⟩:=g3 fo T (fun i hi=>by have:=hf (i+1) (by simpa using hi);simpa[w6,w8 1 i]using this)
    (fun i hi=>by have:=hT (i+1) (by simpa using hi);simpa[w6,w8 1 i]using this)
   simp only[List.length_cons,List.range'_succ,OkRun,Aa,e1,e2];exact⟨⟨ht,k1⟩,k2⟩
end
end Go.Ev
