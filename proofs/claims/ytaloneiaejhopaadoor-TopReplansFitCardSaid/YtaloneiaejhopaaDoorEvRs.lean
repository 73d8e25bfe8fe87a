/-
  Ghosts cut down to the keys that are kept; what memory a run may turn. No condition.
-/
import Derived.Test.YtaloneiaejhopaaDoorEvOpsD
set_option linter.all false
open List renaming mem_singleton->wB,mem_append->wC,getElem_mem->wD,getElem_of_mem->wE
namespace Go.Ev
open Go
variable {H :Heap} {G G':Gh}
mutual
theorem zeu :∀(x:AV),x.plain=true->x.wf->∀y∈x.flat,y.refs=[]
 | .agg l,_,hw,y,hy=>by rw[AV.flat]at hy;rw[AV.wf]at hw;exact zca l hw y hy
 | .bool _,_,_,y,hy=>by simp only[AV.flat,wB]at hy;subst hy;rfl
 | .int _ _,_,_,y,hy=>by simp only[AV.flat,wB]at hy;subst hy;rfl
 | .str _,_,_,y,hy=>by simp only[AV.flat,wB]at hy;subst hy;rfl
 | .s _,_,_,y,hy=>by simp only[AV.flat,wB]at hy;subst hy;rfl
 | .lst _ _ _,_,_,y,hy=>by simp only[AV.flat,wB]at hy;subst hy;rfl
 | .cp _ _,_,_,y,hy=>by simp only[AV.flat,wB]at hy;subst hy;rfl
 | .unk,h,_,_,_=>by cases h
 | .aggR _,h,_,_,_=>by cases h
 | .tup _,h,_,_,_=>by cases h
 | .sl _ _ _ _,h,_,_,_=>by cases h
 | .ptr _ _,h,_,_,_=>by cases h
 | .arp _ _ _ _,h,_,_,_=>by cases h
 | .fn _ _,h,_,_,_=>by cases h
 | .yld _,h,_,_,_=>by cases h
 | .mp _,h,_,_,_=>by cases h
theorem zca :∀(l:List AV),AV.wfp l->∀y∈AV.flats l,y.refs=[]
 | [],_,y,hy=>by simp[AV.flats]at hy
 | x::l,hw,y,hy=>by
   rw[AV.wfp]at hw
   rw[AV.flats,wC]at hy
   rcases hy with hy|hy
   . exact zeu x hw.1 hw.2.1 y hy
   . exact zca l hw.2.2 y hy
end
theorem zbc {l:List AV}{x:AV}(hx:x∈l){k:Nat}(hk:k∈x.refs):k∈AV.refss l:=by
 induction l with
 | nil=>cases hx
 | cons a l ih =>
   rw[AV.refss,wC]
   rcases List.mem_cons.1 hx with rfl|h
   . exact .inl hk
   . exact .inr (ih h)
mutual
theorem zf3 :∀(x:AV),x.wf->∀y∈x.flat,∀k∈y.refs,k∈x.refs
 | .agg l,hw,y,hy,k,hk=>by
   rw[AV.flat]at hy;rw[AV.wf]at hw
   rw[zca l hw y hy]at hk;cases hk
 | .aggR l,hw,y,hy,k,hk=>by
   rw[AV.flat]at hy;rw[AV.wf]at hw;rw[AV.refs];exact zoi l hw y hy k hk
 | .bool _,_,y,hy,k,hk=>by simp only[AV.flat,wB]at hy;subst hy;exact hk
 | .int _ _,_,y,hy,k,hk=>by simp only[AV.flat,wB]at hy;subst hy;exact hk
 | .str _,_,y,hy,k,hk=>by simp only[AV.flat,wB]at hy;subst hy;exact hk
 | .s _,_,y,hy,k,hk=>by simp only[AV.flat,wB]at hy;subst hy;exact hk
 | .lst _ _ _,_,y,hy,k,hk=>by simp only[AV.flat,wB]at hy;subst hy;exact hk
 | .cp _ _,_,y,hy,k,hk=>by simp only[AV.flat,wB]at hy;subst hy;exact hk
 | .unk,_,y,hy,k,hk=>by simp only[AV.flat,wB]at hy;subst hy;exact hk
 | .tup _,_,y,hy,k,hk=>by simp only[AV.flat,wB]at hy;subst hy;exact hk
 | .sl _ _ _ _,_,y,hy,k,hk=>by simp only[AV.flat,wB]at hy;subst hy;exact hk
 | .ptr _ _,_,y,hy,k,hk=>by simp only[AV.flat,wB]at hy;subst hy;exact hk
 | .arp _ _ _ _,_,y,hy,k,hk=>by simp only[AV.flat,wB]at hy;subst hy;exact hk
 | .fn _ _,_,y,hy,k,hk=>by simp only[AV.flat,wB]at hy;subst hy;exact hk
 | .yld _,_,y,hy,k,hk=>by simp only[AV.flat,wB]at hy;subst hy;exact hk
 | .mp _,_,y,hy,k,hk=>by simp only[AV.flat,wB]at hy;subst hy;exact hk
theorem zoi :∀(l:List AV),AV.wfs l->∀y∈AV.flats l,∀k∈y.refs,k∈AV.refss l
 | [],_,y,hy,_,_=>by simp[AV.flats]at hy
 | x::l,hw,y,hy,k,hk=>by
   rw[AV.wfs]at hw
   rw[AV.flats,wC]at hy
   rw[AV.refss,wC]
   rcases hy with hy|hy
   . exact .inl (zf3 x hw.1 y hy k hk)
   . exact .inr (zoi l hw.2 y hy k hk)
end
theorem RepS.cut {v:Value}{x:AV}(h:RepS H G v x)(himm:∀b,G.imm b->G'.imm b)(hyl:∀i l,G.yl i=some l->G'.yl i=some l) :
  (∀k∈x.refs,G'.reg k=G.reg k)->RepS H G' v x:=by
 induction h with
 | bool b=>exact fun _=>.bool b
 | int k n=>exact fun _=>.int k n
 | str l=>exact fun _=>.str l
 | s v h=>exact fun _=>.s v h
 | ptr k p b root off hr ho=>exact fun hk=>.ptr k p b root off ((hk k (by simp[AV.refs])).trans hr) ho
 | arp k p off n b root m e o hr hs ho hle=>exact fun hk=>.arp k p off n b root m e o ((hk k (by simp[AV.refs])).trans hr) hs ho hle
 | sl k p off len b root m e o hr hs ho hle=>exact fun hk=>.sl k p off len b root m e o ((hk k (by simp[AV.refs])).trans hr) hs ho hle
 | slZ k p off b x root m e hr hs ho=>exact fun hk=>.slZ k p off b x root m e ((hk k (by simp[AV.refs])).trans hr) hs ho
 | slNil k a hr=>exact fun hk=>.slNil k a ((hk k (by simp[AV.refs])).trans hr)
 | lstE full sh a cap h=>exact fun _=>.lstE full sh a cap h
 | lst full sh l b off len cap c e fz hi hb hl hc hf hsh val hv hr ih =>
   exact fun _=>.lst full sh l b off len cap c e fz (himm b hi) hb hl hc hf hsh val hv fun j hj=>ih j hj fun k hk=>by
    rw[zca l ((AV.wfp_iff l).2 fun x hx=>(hsh x hx).2) _ (wD hj)]at hk;cases hk
 | cp sh a b off c e fz hi hb hsh val hv hr ih=>exact fun _=>.cp sh a b off c e fz (himm b hi) hb hsh val hv fun j hj=>ih j hj fun k hk=>by rw[zeu a hsh.2.1 hsh.2.2 _ (wD hj)]at hk;cases hk
 | fn v f caps vs he hn hsc val hv hr ih=>exact fun hk=>.fn v f caps vs he hn hsc val hv fun i hi=>ih i hi fun k h=>hk k (by rw[AV.refs];exact zbc (wD hi) h)
 | yld k b hr=>exact fun hk=>.yld k b ((hk k (by simp[AV.refs])).trans hr)
 | mp k b hr=>exact fun hk=>.mp k b ((hk k (by simp[AV.refs])).trans hr)
theorem RepV.cut {v:Value}{x:AV}(h:RepV H G v x)(himm:∀b,G.imm b->G'.imm b)(hyl:∀i l,G.yl i=some l->G'.yl i=some l)
  (hk:∀k∈x.refs,G'.reg k=G.reg k):RepV H G' v x:=by
 obtain⟨h1,h2,vs,h3,h4⟩:=h
 exact⟨h1,h2,vs,⟨h3.len,fun j a b=>(h3.get j a b).cut himm hyl fun k hk'=>hk k (zf3 x h2 _ (wD b) k hk')⟩,h4⟩
theorem RepT.cut {v:Value}{x:AV}(h:RepT H G v x)(himm:∀b,G.imm b->G'.imm b)(hyl:∀i l,G.yl i=some l->G'.yl i=some l)
  (hk:∀k∈x.refs,G'.reg k=G.reg k):RepT H G' v x:=by
 cases x with
 | unk=>trivial
 | tup l =>
   obtain⟨vs,hv,hs,hr⟩:=h
   exact⟨vs,hv,hs,fun i a b=>(hr i a b).cut himm hyl fun k h=>hk k (by rw[AV.refs];exact zbc (wD b) h)⟩
 | _=>exact RepV.cut h himm hyl hk
theorem RepC.cut {c:Array Value}{off:Nat}{x:AV}(h:RepC H G c off x.flat)(hw:x.wf)(himm:∀b,G.imm b->G'.imm b)(hyl:∀i l,G.yl i=some l->G'.yl i=some l)
  (hk:∀k∈x.refs,G'.reg k=G.reg k):RepC H G' c off x.flat:=fun j hj =>
 let ⟨v,hv,hr⟩:=h j hj
 ⟨v,hv,hr.cut himm hyl fun k h=>hk k (zf3 x hw _ (wD hj) k h)⟩
theorem RepS.known {v:Value}{x:AV}(h:RepS H G v x):∀k∈x.refs,∃r,G.reg k=some r:=by
 induction h with
 | ptr k p b root off hr ho=>intro k' hk;simp only[AV.refs,wB]at hk;exact⟨_,hk▸hr⟩
 | arp k p off n b root m e o hr hs ho hle=>intro k' hk;simp only[AV.refs,wB]at hk;exact⟨_,hk▸hr⟩
 | sl k p off len b root m e o hr hs ho hle=>intro k' hk;simp only[AV.refs,wB]at hk;exact⟨_,hk▸hr⟩
 | slZ k p off b x root m e hr hs ho=>intro k' hk;simp only[AV.refs,wB]at hk;exact⟨_,hk▸hr⟩
 | slNil k a hr=>intro k' hk;simp only[AV.refs,wB]at hk;exact⟨_,hk▸hr⟩
 | fn v f caps vs he hn hsc val hv hr ih =>
   intro k hk
   rw[AV.refs]at hk
   have:∀(l:List AV),k∈AV.refss l->∃x∈l,k∈x.refs:=by
    intro l
    induction l with
    | nil=>intro h;cases h
    | cons a l ih =>
      intro h
      rw[AV.refss,wC]at h
      rcases h with h|h
      . exact⟨a,by simp,h⟩
      . obtain⟨x,hx,hk⟩:=ih h;exact⟨x,by simp[hx],hk⟩
   obtain⟨x,hx,hk'⟩:=this caps hk
   obtain⟨i,hi,rfl⟩:=wE hx
   exact ih i hi k hk'
 | yld k b hr=>intro j hj;simp[AV.refs]at hj;subst hj;exact⟨_,hr⟩
 | mp k b hr=>intro j hj;simp[AV.refs]at hj;subst hj;exact⟨_,hr⟩
 | _=>intro k hk;simp[AV.refs]at hk
end Go.Ev
namespace Go.Ev
open Go
variable {H :Heap} {G G':Gh}
mutual
theorem zl5 :∀(x:AV) (k:Nat),k∈x.refs->∃y∈x.flat,k∈y.refs
 | .aggR l,k,h=>by rw[AV.refs]at h;rw[AV.flat];exact zl4 l k h
 | .agg l,k,h=>by simp[AV.refs]at h
 | .bool _,k,h=>⟨_,by simp[AV.flat],h⟩
 | .int _ _,k,h=>⟨_,by simp[AV.flat],h⟩
 | .str _,k,h=>⟨_,by simp[AV.flat],h⟩
 | .s _,k,h=>⟨_,by simp[AV.flat],h⟩
 | .lst _ _ _,k,h=>⟨_,by simp[AV.flat],h⟩
 | .cp _ _,k,h=>⟨_,by simp[AV.flat],h⟩
 | .unk,k,h=>⟨_,by simp[AV.flat],h⟩
 | .tup l,k,h=>⟨.tup l,by simp[AV.flat],h⟩
 | .sl k' p o l,k,h=>⟨.sl k' p o l,by simp[AV.flat],h⟩
 | .ptr k' p,k,h=>⟨.ptr k' p,by simp[AV.flat],h⟩
 | .arp k' p o l,k,h=>⟨.arp k' p o l,by simp[AV.flat],h⟩
 | .fn f l,k,h=>⟨.fn f l,by simp[AV.flat],h⟩
 | .yld i,k,h=>⟨.yld i,by simp[AV.flat],h⟩
 | .mp i,k,h=>⟨.mp i,by simp[AV.flat],h⟩
theorem zl4 :∀(l:List AV) (k:Nat),k∈AV.refss l->∃y∈AV.flats l,k∈y.refs
 | [],k,h=>by simp[AV.refss]at h
 | x::l,k,h=>by
   rw[AV.refss,wC]at h
   rcases h with h|h
   . obtain⟨y,hy,hk⟩:=zl5 x k h;exact⟨y,by rw[AV.flats,wC];exact .inl hy,hk⟩
   . obtain⟨y,hy,hk⟩:=zl4 l k h;exact⟨y,by rw[AV.flats,wC];exact .inr hy,hk⟩
end
theorem RepV.known_refs {v:Value}{x:AV}(h:RepV H G v x):∀k∈x.refs,∃r,G.reg k=some r:=by
 obtain⟨_,_,vs,h3,_⟩:=h
 intro k hk
 obtain⟨y,hy,hk'⟩:=zl5 x k hk
 obtain⟨j,hj,rfl⟩:=wE hy
 exact(h3.get j (by rw[h3.len];exact hj) hj).known k hk'
theorem RepC.known_refs {c:Array Value}{off:Nat}{x:AV}(h:RepC H G c off x.flat):∀k∈x.refs,∃r,G.reg k=some r:=by
 intro k hk
 obtain⟨y,hy,hk'⟩:=zl5 x k hk
 obtain⟨j,hj,rfl⟩:=wE hy
 obtain⟨v,_,hr⟩:=h j hj
 exact hr.known k hk'
theorem zgj {l:List AV}{k:Nat}(h:k∈AV.refss l):∃x∈l,k∈x.refs:=by
 induction l with
 | nil=>cases h
 | cons a l ih =>
   rw[AV.refss,wC]at h
   rcases h with h|h
   . exact⟨a,by simp,h⟩
   . obtain⟨x,hx,hk⟩:=ih h;exact⟨x,by simp[hx],hk⟩
theorem RepT.known_refs {v:Value}{x:AV}(h:RepT H G v x):∀k∈x.refs,∃r,G.reg k=some r:=by
 cases x with
 | unk=>intro k hk;simp[AV.refs]at hk
 | tup l =>
   obtain⟨vs,hv,hs,hr⟩:=h
   intro k hk
   rw[AV.refs]at hk
   obtain⟨x,hx,hk'⟩:=zgj hk
   obtain⟨i,hi,rfl⟩:=wE hx
   exact(hr i (by omega) hi).known_refs k hk'
 | _=>exact RepV.known_refs h
theorem Inv.fix_refs {hp:Hp}(inv:Inv H G hp){k:Nat}{sh:Sh}{a:AV}(hk:hp.get k=some (.fix sh a)):∀j∈a.refs,∃r,G.reg j=some r:=by
 obtain⟨b,c,e,fz,_,_,_,_,_,_,hc⟩:=inv.obs k _ hk
 exact hc.known_refs
theorem Inv.ob_refs {hp:Hp}(inv:Inv H G hp){k:Nat}{o:OB}(hk:hp.get k=some o):∀j∈zdd o,∃r,G.reg j=some r:=by
 cases o with
 | fix sh a=>exact inv.fix_refs hk
 | lp rid vals s =>
   obtain⟨b,rc,info,_,_,_,_,hv⟩:=inv.obs k _ hk
   intro j hj
   obtain⟨x,hx,hj⟩:=zgj hj
   obtain⟨i,hi,rfl⟩:=wE hx
   exact(hv.get i hi).known_refs j hj
 | _=>intro j hj;cases hj
theorem Inv.reg_get {hp:Hp}(inv:Inv H G hp){k:Nat}{r:Rg}(h:G.reg k=some r):∃o,hp.get k=some o:=by
 cases h':hp.get k with
 | none=>rw[inv.out k h']at h;cases h
 | some o=>exact⟨o,rfl⟩
theorem zwn {hp hp':Hp}(inv:Inv H G hp)(σ:Nat->Nat)(himm':∀b,G.imm b->G'.imm b)(hyl:∀i l,G.yl i=some l->G'.yl i=some l)
  (hsrc:∀k o,hp'.get k=some o->(hp.get (σ k)=some o/\G'.reg k=G.reg (σ k)/\∀j∈zdd o,G'.reg j=G.reg j)\/(∃sh,o= .grow sh []/\G'.reg k=some .nil))
  (hout:∀k,hp'.get k=none->G'.reg k=none)
  (hinj:∀k k' b r r',za0 hp' k->za0 hp' k'->G'.At k b r->G'.At k' b r'->σ k=σ k'->k=k')
  (hok:∀b,G'.imm b->b<H.size) (hno:∀b,G'.imm b->∀k r,za0 hp (σ k)->G.At (σ k) b r->G'.At k b r->za0 hp' k->False) :
  Inv H G' hp'/\∀b,Live G' hp' b->Live G hp b:=by
 have hl:∀k b r,za0 hp' k->G'.At k b r->za0 hp (σ k)/\G.At (σ k) b r:=by
  rintro k b r ⟨o,ho,hd⟩ hr
  rcases hsrc k o ho with ⟨h1,h2,_⟩|⟨sh,_,h2⟩
  . exact⟨⟨o,h1,hd⟩,(Gh.at_congr h2).1 hr⟩
  . obtain⟨q,hq,hat⟩:=hr;rw[h2]at hq;cases hq;exact hat.elim
 have hL:∀b,Live G' hp' b->Live G hp b:=fun b ⟨k,r,hk,hr⟩=>let ⟨h1,h2⟩:=hl k b r hk hr;⟨σ k,r,h1,h2⟩
 refine⟨⟨?_,hout,?_,?_,?_⟩,hL⟩
 . intro k o ho
   rcases hsrc k o ho with ⟨h1,h2,h3⟩|⟨sh,rfl,h2⟩
   . have:=inv.obs (σ k) o h1
     cases o with
     | fix sh a =>
       obtain⟨b,c,e,fz,g1,g2,g3,g4,g5,g6,g7⟩:=this
       exact⟨b,c,e,fz,h2.trans g1,g2,g3,g4,g5,g6,RepC.cut g7 g6 himm' hyl h3⟩
     | grow sh els =>
       rcases this with ⟨h,h'⟩|⟨b,cap,c,e,fz,g1,g2,g3,g4,g5,g6,g7⟩
       . exact .inl ⟨h,h2.trans h'⟩
       . refine .inr ⟨b,cap,c,e,fz,h2.trans g1,g2,g3,g4,g5,g6,fun j hj=> ?_⟩
         obtain⟨v,hv,hr⟩:=g7 j hj
         refine⟨v,hv,hr.cut himm' hyl fun q hq=> ?_⟩
         rw[zca els ((AV.wfp_iff els).2 fun x hx=>(g6 x hx).2) _ (wD hj)]at hq
         cases hq
     | dead=>exact let ⟨r,hr⟩:=this;⟨r,h2.trans hr⟩
     | lp rid vals s =>
       obtain⟨b,rc,info,hr,hb,hy,hrc,hv⟩:=this
       exact⟨b,rc,info,h2.trans hr,hb,hyl _ _ hy,hrc,hv.len,fun j hj=>(hv.get j hj).cut himm' hyl fun q hq=>h3 q (zbc (wD hj) hq)⟩
     | mp es c=>obtain⟨b,hr,hb,he⟩:=this;exact⟨b,h2.trans hr,hb,he⟩
   . exact .inl ⟨rfl,h2⟩
 . intro k k' b r r' hr hr' hk hk'
   obtain⟨h1,h2⟩:=hl k b r hk hr
   obtain⟨h1',h2'⟩:=hl k' b r' hk' hr'
   exact hinj k k' b r r' hk hk' hr hr' (inv.dist _ _ b r r' h2 h2' h1 h1')
 . exact fun b hb=>⟨hok b hb,fun⟨k,r,hk,hr⟩=>let ⟨h1,h2⟩:=hl k b r hk hr;hno b hb k r h1 h2 hr hk⟩
 . exact fun b hb=>inv.lt b (hL b hb)
theorem z2v {hp hp':Hp}(inv:Inv H G hp)(σ:Nat->Nat)(himm:∀b,G'.imm b↔G.imm b)(hyl:∀i l,G.yl i=some l->G'.yl i=some l)
  (hsrc:∀k o,hp'.get k=some o->(hp.get (σ k)=some o/\G'.reg k=G.reg (σ k)/\∀j∈zdd o,G'.reg j=G.reg j)\/(∃sh,o= .grow sh []/\G'.reg k=some .nil))
  (hout:∀k,hp'.get k=none->G'.reg k=none)
  (hinj:∀k k' b r r',za0 hp' k->za0 hp' k'->G'.At k b r->G'.At k' b r'->σ k=σ k'->k=k') :
  Inv H G' hp'/\∀b,Live G' hp' b->Live G hp b :=
 zwn inv σ (fun b h=>(himm b).2 h) hyl hsrc hout hinj (fun b hb=>(inv.imm b ((himm b).1 hb)).1) fun b hb k r h1 h2 _ _=>(inv.imm b ((himm b).1 hb)).2 ⟨σ k,r,h1,h2⟩
structure Move (H:Heap)(G:Gh)(hp:Hp)(H':Heap)(G':Gh)(hp':Hp):Prop where
 inv:Inv H' G' hp'
 size:H.size<=H'.size
 imm:∀b,G.imm b->G'.imm b/\H'[b]? =H[b]?
 yl:∀i l,G.yl i=some l->G'.yl i=some l
 same:∀b,b<H.size->¬Live G hp b->H'[b]? =H[b]?
 live:∀b,Live G' hp' b->Live G hp b\/H.size<=b
 immNew:∀b,G'.imm b->G.imm b\/H.size<=b\/Live G hp b
theorem Step.move {hp hp':Hp}{H':Heap}(h:Step H G hp H' G' hp'):Move H G hp H' G' hp' :=
 ⟨h.inv,h.size,h.le.imm,h.le.yl,h.same,h.live,h.immNew⟩
theorem Move.trans {H₀ H₁ H₂:Heap}{G₀ G₁ G₂:Gh}{p₀ p₁ p₂:Hp}(h:Move H₀ G₀ p₀ H₁ G₁ p₁)(h':Move H₁ G₁ p₁ H₂ G₂ p₂):Move H₀ G₀ p₀ H₂ G₂ p₂ where
 inv:=h'.inv
 size:=Nat.le_trans h.size h'.size
 imm b hb:=⟨(h'.imm b (h.imm b hb).1).1,((h'.imm b (h.imm b hb).1).2).trans (h.imm b hb).2⟩
 yl i l hl:=h'.yl i l (h.yl i l hl)
 same b hb hl:=by
  have:¬Live G₁ p₁ b:=fun h1=>by
   rcases h.live b h1 with h2|h2
   . exact hl h2
   . omega
  rw[h'.same b (Nat.lt_of_lt_of_le hb h.size) this,h.same b hb hl]
 live b hb:=by
  rcases h'.live b hb with h1|h1
  . exact h.live b h1
  . exact .inr (Nat.le_trans h.size h1)
 immNew b hb:=by
  rcases h'.immNew b hb with h1|h1|h1
  . exact h.immNew b h1
  . exact .inr (.inl (Nat.le_trans h.size h1))
  . rcases h.live b h1 with h2|h2
    . exact .inr (.inr h2)
    . exact .inr (.inl h2)
end Go.Ev
namespace Go.Ev
open Go
def Kept (w w':World):Prop:=w'.os=w.os/\w'.output=w.output
theorem Kept.refl (w:World):Kept w w:=⟨rfl,rfl⟩
theorem Kept.trans {a b c:World}(h:Kept a b)(h':Kept b c):Kept a c:=⟨h'.1.trans h.1,h'.2.trans h.2⟩
def OpOk (F:Fence)(n:Nat)(P:Program)(gl:Gl)(cl:Cl):Prop :=
 ∀{im:Im} (o:Oper) (m:MOp) (a:Act) (w:World) (G:Gh) (st:St) (v:AV) (us:Hp),GlOk w.heap G gl->StOk w.heap G st a.tmps->zan P im o=some m->zaa gl cl st o.dst m=some (v,us) ->
  ∀(K:Act->World->Prop) (Q:Exit->Act->World->Prop),
   (∀v' w' G',Kept w w'->Step w.heap G st.hp w'.heap G' (us++st.hp)->RepT w'.heap G' v' v->K (a.put o.dst v') w')->o.wpIn F n P a w K Q
theorem zgh (a:Act)(d:Option Tmp)(v:Value)(hd:∀i,d=some i->i<a.tmps.size)(i:Nat) :
  (a.put d v).tmps.getD i undef=if d=some i then v else a.tmps.getD i undef:=by
 cases d with
 | none=>simp[Act.put]
 | some j =>
   have hj:=hd j rfl
   simp only[Act.put,Option.some.injEq]
   by_cases h:j=i
   . subst h
     simp[hj]
   . simp only[h,if_false,Array.getD_eq_getD_getElem?]
     rw[Array.getElem?_setIfInBounds_ne h]
theorem zcn (a:Act)(d:Option Tmp)(v:Value):(a.put d v).tmps.size=a.tmps.size:=by
 cases d<;>simp[Act.put]
theorem ztu (fr:Fr)(d:Option Nat)(v:AV)(i:Nat):(fr.upd d v).get i=if d=some i then v else fr.get i:=by
 cases d with
 | none=>simp[Fr.upd]
 | some j=>simp[Fr.upd,Fr.get]
theorem zga {H H':Heap}{G G':Gh}{st:St}{a:Act}{d:Option Tmp}{v:AV}{v':Value}{us:Hp}(hst:StOk H G st a.tmps)(hd:∀i,d=some i->i<a.tmps.size)
  (hs:Step H G st.hp H' G' (us++st.hp)) (hv:RepT H' G' v' v):StOk H' G' (st.upd d v us) (a.put d v').tmps:=by
 refine⟨hs.inv,fun i=> ?_⟩
 rw[zgh a d v' hd,St.upd,ztu]
 split
 . exact hv
 . exact(hst.fr i).mono hs.le
end Go.Ev
