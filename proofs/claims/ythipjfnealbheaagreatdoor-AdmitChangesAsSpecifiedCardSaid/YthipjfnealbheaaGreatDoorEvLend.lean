/-
  Values that are lent, moved, and renamed. No condition.
-/
import Derived.Test.YthipjfnealbheaaGreatDoorEvReg4
set_option linter.all false
open List renaming getElem_mem->wB,mem_singleton->wC,mem_cons->wD,map_append->wE,nodup_append->wF,eq_nil_of_length_eq_zero->wG,nodup_cons->wH,length_nil->wJ,all_cons->wK,singleton_append->wL,nil_append->wM,append_nil->wN
open Option renaming some.injEq->wO,bind_eq_some_iff->wP,ite_none_right_eq_some->wQ,map_eq_some_iff->wR
open Bool renaming and_eq_true->wS,true_and->wT
namespace Go.Ev
open Go
variable {H H':Heap} {G G':Gh}
def Gh.over (G G':Gh):Gh:={imm:=G'.imm,yl:=G'.yl,reg:=G.reg}
theorem ztd (himm:∀b,G.imm b->G'.imm b/\H'[b]? =H[b]?)(hyl:∀i l,G.yl i=some l->G'.yl i=some l):Le H G H' (G.over G'):=⟨himm,zfc fun _ _ h=>h,hyl⟩
theorem RepS.move {v:Value}{x:AV}(h:RepS H G v x)(himm:∀b,G.imm b->G'.imm b/\H'[b]? =H[b]?)(hyl:∀i l,G.yl i=some l->G'.yl i=some l)
  (hk:∀k∈x.refs,G'.reg k=G.reg k):RepS H' G' v x:=(h.mono (ztd himm hyl)).cut (fun _ h=>h) (fun _ _ h=>h) hk
theorem RepV.move {v:Value}{x:AV}(h:RepV H G v x)(himm:∀b,G.imm b->G'.imm b/\H'[b]? =H[b]?)(hyl:∀i l,G.yl i=some l->G'.yl i=some l)
  (hk:∀k∈x.refs,G'.reg k=G.reg k):RepV H' G' v x:=(h.mono (ztd himm hyl)).cut (fun _ h=>h) (fun _ _ h=>h) hk
theorem RepT.move {v:Value}{x:AV}(h:RepT H G v x)(himm:∀b,G.imm b->G'.imm b/\H'[b]? =H[b]?)(hyl:∀i l,G.yl i=some l->G'.yl i=some l)
  (hk:∀k∈x.refs,G'.reg k=G.reg k):RepT H' G' v x:=(h.mono (ztd himm hyl)).cut (fun _ h=>h) (fun _ _ h=>h) hk
theorem RepC.moveP {c:Array Value}{off:Nat}{x:AV}(h:RepC H G c off x.flat)(hw:x.wf)(hp:x.plain=true)(himm:∀b,G.imm b->G'.imm b/\H'[b]? =H[b]?)(hyl:∀i l,G.yl i=some l->G'.yl i=some l) :
  RepC H' G' c off x.flat:=fun j hj =>
 let ⟨v,hv,hr⟩:=h j hj
 ⟨v,hv,hr.move himm hyl fun k hk=>by rw[zen x hp hw _ (wB hj)]at hk;cases hk⟩
theorem GlOk.move {gl:Gl}(h:GlOk H G gl)(himm:∀b,G.imm b->G'.imm b/\H'[b]? =H[b]?)(hyl:∀i l,G.yl i=some l->G'.yl i=some l):GlOk H' G' gl:=⟨fun i sh a hi=>by
 obtain⟨h1,h2,h3,h4,c,e,fz,h5,h6⟩:=h.tab i sh a hi
 exact⟨(himm i h1).1,h2,h3,h4,c,e,fz,(himm i h1).2.trans h5,h6.moveP h4 h3 himm hyl⟩,fun i r hi=>hyl _ _ (h.ri i r hi)⟩
theorem GlOk.moved {gl:Gl}{hp hp':Hp}(h:GlOk H G gl)(m:Move H G hp H' G' hp'):GlOk H' G' gl:=h.move m.imm m.yl
theorem Move.refl {hp:Hp}(h:Inv H G hp):Move H G hp H G hp:=(Step.refl h).move
structure LendOk (H:Heap)(G G':Gh)(a x:AV):Prop where
 wf:x.wf
 agg:x.isAgg=a.isAgg
 known:a.known=true->x.known=true
 scalar:a.scalar=true->x.scalar=true
 sh:∀sh,zao sh a=true->zao sh x=true
 rep:∀vs,RepL H G vs a.flat->RepL H G' vs x.flat
theorem zdh {v:Value}{a:AV}(h:a.scalar=true):RepL H G [v] a.flat↔RepS H G v a:=by
 rw[AV.flat_scalar h]
 constructor
 . intro hl;exact hl.get 0 (by simp) (by simp)
 . intro hs
   refine⟨rfl,fun j h1 h2=> ?_⟩
   have:j=0:=by simp at h1;omega
   subst this;exact hs
theorem zh5 {vs:List Value}{a:AV}(h:a.scalar=true)(hl:RepL H G vs a.flat):∃v,vs=[v]/\RepS H G v a:=by
 have hlen:=hl.len
 rw[AV.flat_scalar h]at hlen
 match vs,hlen with
 | [v],_=>exact⟨v,rfl,(zdh h).1 hl⟩
theorem zw9 {vs:List Value}{l m:List AV}(h:RepL H G vs (l++m)):∃us ws,vs=us++ws/\RepL H G us l/\RepL H G ws m:=by
 have hlen:=h.len
 rw[List.length_append]at hlen
 refine⟨vs.take l.length,vs.drop l.length,(List.take_append_drop _ _).symm,⟨by rw[List.length_take];omega,fun j h1 h2=> ?_⟩,⟨by rw[List.length_drop];omega,fun j h1 h2=> ?_⟩⟩
 . have:=h.get j (by omega) (by simp;omega)
   rw[List.getElem_append_left h2]at this
   rw[List.getElem_take];exact this
 . have:=h.get (l.length+j) (by omega) (by simp;omega)
   rw[List.getElem_append_right (by omega)]at this
   rw[List.getElem_drop]
   simpa using this
theorem z5p {vs:List Value}:RepL H G vs []↔vs=[]:=by
 constructor
 . intro h;exact wG h.len
 . rintro rfl;exact⟨rfl,fun j h=>by simp at h⟩
theorem zpf {f:AV->Option AV}:∀{l l':List AV},mapO f l=some l'->(∀a∈l,∀x,f a=some x->LendOk H G G' a x)->AV.wfs l'/\l'.length=l.length /\
  (∀fs,za8 fs l=true->za8 fs l'=true)/\(∀e,l.all (zao e)=true->l'.all (zao e)=true)/\(∀vs,RepL H G vs (AV.flats l)->RepL H G' vs (AV.flats l')) /\
  (AV.scalars l=true->AV.scalars l'=true)/\∀i (h:i<l.length) (h':i<l'.length),LendOk H G G' l[i] l'[i]
 | [],l',h,_=>by
   simp only[mapO,wO]at h;subst h
   refine⟨trivial,rfl,fun fs h=>h,fun _ h=>h,fun vs h=> ?_,fun h=>h,fun i h=>by simp at h⟩
   rw[AV.flats,z5p]at h ⊢;exact h
 | a::l,l',h,hf=>by
   simp only[mapO,wP,wR]at h
   obtain⟨b,hb,r,hr,rfl⟩:=h
   have h1:=hf a (by simp) b hb
   obtain⟨g1,g2,g3,g4,g5,g6,g7⟩:=zpf hr fun x hx=>hf x (by simp[hx])
   refine⟨⟨h1.wf,g1⟩,by simp[g2],fun fs h=> ?_,fun e h=> ?_,fun vs h=> ?_,fun h=> ?_,fun i hi hi'=> ?_⟩
   . cases fs with
     | nil=>simp[za8]at h
     | cons s fs =>
       simp only[za8,wS]at h ⊢
       exact⟨h1.sh s h.1,g3 fs h.2⟩
   . simp only[wK,wS]at h ⊢
     exact⟨h1.sh e h.1,g4 e h.2⟩
   . rw[AV.flats]at h ⊢
     obtain⟨us,ws,rfl,k1,k2⟩:=zw9 h
     exact zdt (h1.rep us k1) (g5 ws k2)
   . simp only[AV.scalars,wS]at h ⊢
     exact⟨h1.scalar h.1,g6 h.2⟩
   . cases i with
     | zero=>exact h1
     | succ i=>exact g7 i (by simpa using hi) (by simpa using hi')
theorem zii :∀{l:List AV},AV.wfs l->AV.plains l=true->AV.wfp l
 | [],_,_=>trivial
 | a::l,h,hp=>by
   simp only[AV.plains,wS]at hp
   exact⟨hp.1,h.1,zii h.2 hp.2⟩
theorem z97 {l:List AV}(h:(AV.aggR l).wf):AV.wfs l:=by simpa[AV.wf]using h
theorem qco {hp:Hp}(inv:Inv H G hp)(himm:∀b,G.imm b->G'.imm b)(hlive:∀b,Live G hp b->G'.imm b)(hyl:∀i l,G.yl i=some l->G'.yl i=some l) :
  ∀(n:Nat) (a x:AV),zau hp n a=some x->a.wf->LendOk H G G' a x:=by
 have plain:∀(a:AV),a.plain=true->a.wf->LendOk H G G' a a:=fun a hp hw =>
  ⟨hw,rfl,id,id,fun _=>id,fun vs h=>⟨h.len,fun j h1 h2=>(h.get j h1 h2).cut himm hyl fun k hk=>by rw[zen a hp hw _ (wB h2)]at hk;cases hk⟩⟩
 intro n
 induction n with
 | zero =>
   intro a x h hw
   simp only[zau,wQ,wO]at h
   obtain⟨hp,rfl⟩:=h
   exact plain a hp hw
 | succ n ih =>
   intro a x h hw
   simp only[zau]at h
   split at h
   . rename_i hpl
     cases h;exact plain a hpl hw
   . split at h
     . rename_i k p off len _
       simp only[wR]at h
       obtain⟨⟨sh,l⟩,hc,rfl⟩:=h
       refine⟨trivial,rfl,fun _=>rfl,fun _=>rfl,fun s hs=> ?_,fun vs hvs=> ?_⟩
       . cases s with
         | sc=>rfl
         | st fs=>simp[zao,AV.isAgg]at hs
         | ar n e=>simp[zao,AV.isAgg]at hs
       . obtain⟨v,rfl,hv⟩:=zh5 rfl hvs
         refine(zdh rfl).2 ?_
         obtain⟨b,cap,hev,hels,hor⟩:=zic inv hv hc
         have hcap:l.length<=cap:=by
          rcases zbi hv with ⟨a0,_,_,hl,he,_⟩|⟨b1,root,m,e,o,x1,hr,hs,ho,hle,he,hx⟩
          . rw[hev]at he;injection he with _ e2 e3;omega
          . rw[hev]at he;injection he with _ e2 e3;omega
         subst hev
         refine zk1 hcap (fun h=>by cases h) hels ?_
         rcases hor with h|⟨k1,off1,c,e,fz,h1,h2,h3⟩
         . exact .inl h
         . by_cases h0:l=[]
           . exact .inl h0
           . refine .inr ⟨k1,off1,c,e,fz,h1,?_,h2,fun j hj=> ?_⟩
             . rcases zbi hv with ⟨a0,_,_,hl,he,_⟩|⟨b1,root,m,e,o,x1,hr,hs,ho,hle,he,hx⟩
               . injection he with _ he _
                 exact absurd (wG he) h0
               . injection he with he1 _ _
                 rw[h1]at he1
                 injection he1 with he1
                 injection he1 with he1 _ _
                 subst he1
                 refine hlive k1 ⟨k,root,?_,.of hr⟩
                 simp only[za4]at hc
                 split at hc
                 . exact⟨_,by assumption,by simp⟩
                 . exact⟨_,by assumption,by simp⟩
                 . cases hc
             . obtain⟨w,hw1,hw2⟩:=h3 j hj
               exact⟨w,hw1,hw2.cut himm hyl fun q hq=>by
                rw[zb8 l ((AV.wfp_iff l).2 fun y hy=>(hels y hy).2) _ (wB hj)]at hq;cases hq⟩
     . rename_i k p _
       split at h
       . rename_i sh b hk
         split at h
         . rename_i s x0 hs hn
           simp only[wP]at h
           obtain⟨y,hy,h⟩:=h
           split at h
           . rename_i hpy
             cases h
             refine⟨trivial,rfl,fun _=>rfl,fun _=>rfl,fun s hs=> ?_,fun vs hvs=> ?_⟩
             . cases s with
               | sc=>rfl
               | st fs=>simp[zao,AV.isAgg]at hs
               | ar n e=>simp[zao,AV.isAgg]at hs
             . obtain⟨v,rfl,hv⟩:=zh5 rfl hvs
               refine(zdh rfl).2 ?_
               obtain⟨b1,root,off,rfl,hr,ho⟩:=zhi hv
               obtain⟨rfl,hsx,hwx,_,c,e,fz,hb,hf,hsz,hrc⟩:=zis inv hk hr ho hs hn
               have hl:=ih x0 y hy hwx
               refine zmo (hlive b1 ⟨k,root,⟨_,hk,by simp⟩,.of hr⟩) hb ?_ (hl.sh s hsx) hpy hl.wf
               obtain⟨val,hv1,hv2⟩:=zgb hrc
               have hL:RepL H G ((List.range x0.flat.length).map val) x0.flat:=⟨by simp,fun j h1 h2=>by simpa using hv2 j h2⟩
               have hL':=hl.rep _ hL
               have hlen:=hL'.len
               simp only[List.length_map,List.length_range]at hlen
               intro j hj
               refine⟨val j,hv1 j (by omega),?_⟩
               have:=hL'.get j (by simp;omega) hj
               simpa using this
           . cases h
         . cases h
       . cases h
     . rename_i l _
       simp only[wP]at h
       obtain⟨l',hl',h⟩:=h
       split at h
       . rename_i hpl
         cases h
         have hws:=z97 hw
         rw[AV.wfs_iff]at hws
         obtain⟨g1,g2,g3,g4,g5,_,_⟩:=zpf hl' fun a ha x hx=>ih a x hx (hws a ha)
         refine⟨?_,rfl,fun _=>rfl,fun h=>by simp[AV.scalar]at h,fun s hs=> ?_,fun vs hvs=> ?_⟩
         . rw[AV.wf];exact zii g1 hpl
         . cases s with
           | sc=>simp[zao,AV.scalar]at hs
           | st fs=>simp only[zao,AV.isAgg,AV.kids,wT]at hs ⊢;exact g3 fs hs
           | ar n e=>simp only[zao,AV.isAgg,AV.kids,wT,wS,beq_iff_eq]at hs ⊢;exact⟨by omega,g4 e hs.2⟩
         . simp only[AV.flat]at hvs ⊢;exact g5 vs hvs
       . cases h
     . rename_i f l _
       simp only[wR]at h
       obtain⟨l',hl',rfl⟩:=h
       refine⟨trivial,rfl,fun _=>rfl,fun _=>rfl,fun s hs=> ?_,fun vs hvs=> ?_⟩
       . cases s with
         | sc=>rfl
         | st fs=>simp[zao,AV.isAgg]at hs
         | ar n e=>simp[zao,AV.isAgg]at hs
       . obtain⟨v,rfl,hv⟩:=zh5 rfl hvs
         refine(zdh rfl).2 ?_
         cases hv with
         | fn _ _ _ us he hn hsc val hval hr =>
           have hws:∀a∈l,a.wf:=fun a ha=>AV.wf_scalar (by
            have:∀(l:List AV),AV.scalars l=true->∀a∈l,a.scalar=true:=by
             intro l
             induction l with
             | nil=>intro _ a h;cases h
             | cons b l ih =>
               intro h a ha
               simp only[AV.scalars,wS]at h
               rcases wD.1 ha with rfl|ha
               . exact h.1
               . exact ih h.2 a ha
            exact this l hsc a ha)
           obtain⟨g1,g2,_,_,_,g6,g7⟩:=zpf hl' fun a ha x hx=>ih a x hx (hws a ha)
           refine .fn _ f l' us he (by omega) (g6 hsc) val (fun i hi=>hval i (by omega)) fun i hi=> ?_
           have hi':i<l.length:=by omega
           have hk:=g7 i hi' hi
           have hsci:l[i].scalar=true:=by
            have:∀(l:List AV),AV.scalars l=true->∀a∈l,a.scalar=true:=by
             intro l
             induction l with
             | nil=>intro _ a h;cases h
             | cons b l ih =>
               intro h a ha
               simp only[AV.scalars,wS]at h
               rcases wD.1 ha with rfl|ha
               . exact h.1
               . exact ih h.2 a ha
            exact this l hsc _ (wB hi')
           exact(zdh (hk.scalar hsci)).1 (hk.rep _ ((zdh hsci).2 (hr i hi')))
     . cases h
theorem zlx {a x:AV}(h:x.isAgg=a.isAgg)(vs:List Value):zeu x vs=zeu a vs:=by unfold zeu;rw[h]
theorem zvc {hp:Hp}(inv:Inv H G hp)(himm:∀b,G.imm b->G'.imm b)(hlive:∀b,Live G hp b->G'.imm b)(hyl:∀i l,G.yl i=some l->G'.yl i=some l)
  {n:Nat} {a x:AV} {v:Value} (h:zau hp n a=some x) (hv:RepV H G v a):RepV H G' v x:=by
 obtain⟨h1,h2,vs,h3,h4⟩:=hv
 have hl:=qco inv himm hlive hyl n a x h h2
 exact⟨hl.known h1,hl.wf,vs,hl.rep vs h3,by rw[zlx hl.agg];exact h4⟩
theorem znj {hp:Hp}:∀{n:Nat} {a x:AV},zau hp n a=some x->a.known=true
 | 0,a,x,h=>by
   simp only[zau,wQ]at h
   have:=h.1;revert this;cases a<;>simp[AV.plain,AV.known]
 | n+1,a,x,h=>by
   simp only[zau]at h
   cases a<;>simp_all[AV.known,AV.plain]
def ren (d k:Nat):Nat:=if 20000<=k then d+1000*(k-20000)else k
mutual
theorem z5b (d:Nat):∀(a:AV),a.plain=true->rn d a=a
 | .agg _,_=>rfl
 | .bool _,_=>rfl
 | .int _ _,_=>rfl
 | .str _,_=>rfl
 | .s _,_=>rfl
 | .lst _ _ _,_=>rfl
 | .cp _ _,_=>rfl
 | .unk,h=>by cases h
 | .aggR _,h=>by cases h
 | .tup _,h=>by cases h
 | .sl _ _ _ _,h=>by cases h
 | .ptr _ _,h=>by cases h
 | .arp _ _ _ _,h=>by cases h
 | .fn _ _,h=>by cases h
 | .yld _,h=>by cases h
 | .mp _,h=>by cases h
end
theorem zc9 (d:Nat):∀(l:List AV),(rns d l).length=l.length
 | []=>rfl
 | a::l=>by simp[rns,zc9 d l]
theorem zfb (d:Nat):∀(l:List AV),rns d l=l.map (rn d)
 | []=>rfl
 | a::l=>by simp[rns,zfb d l]
mutual
theorem z0h (d:Nat):∀(a:AV),(rn d a).scalar=a.scalar
 | .agg _=>rfl
 | .bool _=>rfl
 | .int _ _=>rfl
 | .str _=>rfl
 | .s _=>rfl
 | .lst _ _ _=>rfl
 | .cp _ _=>rfl
 | .unk=>rfl
 | .aggR _=>rfl
 | .tup _=>rfl
 | .sl _ _ _ _=>rfl
 | .ptr _ _=>rfl
 | .arp _ _ _ _=>rfl
 | .fn _ _=>rfl
 | .yld _=>rfl
 | .mp _=>rfl
end
theorem z5d (d:Nat)(a:AV):(rn d a).isAgg=a.isAgg:=by cases a<;>rfl
theorem z5c (d:Nat)(a:AV):(rn d a).known=a.known:=by cases a<;>rfl
theorem zll (d:Nat):∀(l:List AV),AV.scalars (rns d l)=AV.scalars l
 | []=>rfl
 | a::l=>by simp[rns,AV.scalars,z0h,zll d l]
mutual
theorem qf2 (d:Nat):∀(a:AV),a.wf->(rn d a).wf
 | .agg _,h=>h
 | .bool _,h=>h
 | .int _ _,h=>h
 | .str _,h=>h
 | .s _,h=>h
 | .lst _ _ _,h=>h
 | .cp _ _,h=>h
 | .unk,h=>h
 | .aggR l,h=>by rw[AV.wf]at h;rw[rn,AV.wf];exact z0a d l h
 | .tup l,h=>by rw[AV.wf]at h;rw[rn,AV.wf];exact z0a d l h
 | .sl _ _ _ _,_=>trivial
 | .ptr _ _,_=>trivial
 | .arp _ _ _ _,_=>trivial
 | .fn _ _,_=>trivial
 | .yld _,_=>trivial
 | .mp _,_=>trivial
theorem z0a (d:Nat):∀(l:List AV),AV.wfs l->AV.wfs (rns d l)
 | [],_=>trivial
 | a::l,h=>⟨qf2 d a h.1,z0a d l h.2⟩
end
mutual
theorem zs4 (d:Nat):∀(a:AV),a.wf->(rn d a).flat=rns d a.flat
 | .agg l,h=>by
   rw[AV.wf]at h
   show(AV.agg l).flat=rns d (AV.agg l).flat
   simp only[AV.flat]
   exact zgx d l h
 | .bool _,_=>rfl
 | .int _ _,_=>rfl
 | .str _,_=>rfl
 | .s _,_=>rfl
 | .lst _ _ _,_=>rfl
 | .cp _ _,_=>rfl
 | .unk,_=>rfl
 | .aggR l,h=>by
   rw[AV.wf]at h
   rw[rn,AV.flat,AV.flat];exact zqp d l h
 | .tup _,_=>rfl
 | .sl _ _ _ _,_=>rfl
 | .ptr _ _,_=>rfl
 | .arp _ _ _ _,_=>rfl
 | .fn _ _,_=>rfl
 | .yld _,_=>rfl
 | .mp _,_=>rfl
theorem zqp (d:Nat):∀(l:List AV),AV.wfs l->AV.flats (rns d l)=rns d (AV.flats l)
 | [],_=>rfl
 | a::l,h=>by
   rw[rns,AV.flats,AV.flats,zs4 d a h.1,zqp d l h.2,zfb,zfb,zfb,wE]
theorem zgx (d:Nat):∀(l:List AV),AV.wfp l->AV.flats l=rns d (AV.flats l)
 | [],_=>rfl
 | a::l,h=>by
   have h1:a.flat=rns d a.flat:=by rw[<-zs4 d a h.2.1,z5b d a h.1]
   rw[AV.flats,zfb,wE,<-zfb,<-zfb,<-h1,<-zgx d l h.2.2]
end
theorem RepS.rename {v:Value}{x:AV}{d:Nat}(h:RepS H G v x)(himm:zc5 x=false->∀b,G.imm b->G'.imm b)(hyl:∀i l,G.yl i=some l->G'.yl i=some l) :
  (∀k∈x.refs,G'.reg (ren d k)=G.reg k)->RepS H G' v (rn d x):=by
 induction h with
 | bool b=>exact fun _=>.bool b
 | int k n=>exact fun _=>.int k n
 | str l=>exact fun _=>.str l
 | s v h=>exact fun _=>.s v h
 | ptr k p b root off hr ho=>exact fun hk=>.ptr _ p b root off ((hk k (by simp[AV.refs])).trans hr) ho
 | arp k p off n b root m e o hr hs ho hle=>exact fun hk=>.arp _ p off n b root m e o ((hk k (by simp[AV.refs])).trans hr) hs ho hle
 | sl k p off len b root m e o hr hs ho hle=>exact fun hk=>.sl _ p off len b root m e o ((hk k (by simp[AV.refs])).trans hr) hs ho hle
 | slZ k p off b x root m e hr hs ho=>exact fun hk=>.slZ _ p off b x root m e ((hk k (by simp[AV.refs])).trans hr) hs ho
 | slNil k a hr=>exact fun hk=>.slNil _ a ((hk k (by simp[AV.refs])).trans hr)
 | lstE full sh a cap h=>exact fun _=>.lstE full sh a cap h
 | lst full sh l b off len cap c e fz hi hb hl hc hf hsh val hv hr ih =>
   intro _
   by_cases h0:l=[]
   . subst h0
     simp only[wJ]at hl
     subst hl
     exact .lstE full sh _ cap fun h=>hf h
   . have himm':=himm (by unfold zc5;simpa using h0)
     exact .lst full sh l b off len cap c e fz (himm' _ hi) hb hl hc hf hsh val hv fun j hj=>(hr j hj).cut himm' hyl fun k hk=>by
      rw[zb8 l ((AV.wfp_iff l).2 fun x hx=>(hsh x hx).2) _ (wB hj)]at hk;cases hk
 | cp sh a b off c e fz hi hb hsh val hv hr ih =>
   intro _
   have himm':=himm rfl
   exact .cp sh a b off c e fz (himm' _ hi) hb hsh val hv fun j hj=>(hr j hj).cut himm' hyl fun k hk=>by rw[zen a hsh.2.1 hsh.2.2 _ (wB hj)]at hk;cases hk
 | fn v f caps vs he hn hsc val hv hr ih =>
   intro hk
   have himm':=himm rfl
   refine .fn v f (rns d caps) vs he (by rw[zc9];exact hn) (by rw[zll];exact hsc) val (fun i hi=>hv i (by rw[zc9]at hi;exact hi)) fun i hi=> ?_
   have hi':i<caps.length:=by rw[zc9]at hi;exact hi
   have:(rns d caps)[i]=rn d caps[i]:=by simp[zfb]
   rw[this]
   exact ih i hi' (fun _=>himm') fun k h=>hk k (by rw[AV.refs];exact za9 (wB hi') h)
 | yld k b hr=>exact fun hk=>.yld _ b ((hk k (by simp[AV.refs])).trans hr)
 | mp k b hr=>exact fun hk=>.mp _ b ((hk k (by simp[AV.refs])).trans hr)
theorem zjq :∀{l:List AV},zcy l=true->∀a∈l,zc5 a=true
 | [],_,_,h=>by cases h
 | b::l,h,a,ha=>by
   simp only[zcy,wS]at h
   rcases wD.1 ha with rfl|ha
   . exact h.1
   . exact zjq h.2 a ha
mutual
theorem zjr :∀(a:AV),zc5 a=true->∀y∈a.flat,zc5 y=true
 | .agg l,h,y,hy=>by rw[AV.flat]at hy;rw[zc5]at h;exact ze5 l h y hy
 | .aggR l,h,y,hy=>by rw[AV.flat]at hy;rw[zc5]at h;exact ze5 l h y hy
 | .bool _,h,y,hy=>by simp only[AV.flat,wC]at hy;subst hy;exact h
 | .int _ _,h,y,hy=>by simp only[AV.flat,wC]at hy;subst hy;exact h
 | .str _,h,y,hy=>by simp only[AV.flat,wC]at hy;subst hy;exact h
 | .s _,h,y,hy=>by simp only[AV.flat,wC]at hy;subst hy;exact h
 | .lst _ _ _,h,y,hy=>by simp only[AV.flat,wC]at hy;subst hy;exact h
 | .cp _ _,h,y,hy=>by simp only[AV.flat,wC]at hy;subst hy;exact h
 | .unk,h,y,hy=>by simp only[AV.flat,wC]at hy;subst hy;exact h
 | .tup _,h,y,hy=>by simp only[AV.flat,wC]at hy;subst hy;exact h
 | .sl _ _ _ _,h,y,hy=>by simp only[AV.flat,wC]at hy;subst hy;exact h
 | .ptr _ _,h,y,hy=>by simp only[AV.flat,wC]at hy;subst hy;exact h
 | .arp _ _ _ _,h,y,hy=>by simp only[AV.flat,wC]at hy;subst hy;exact h
 | .fn _ _,h,y,hy=>by simp only[AV.flat,wC]at hy;subst hy;exact h
 | .yld _,h,y,hy=>by simp only[AV.flat,wC]at hy;subst hy;exact h
 | .mp _,h,y,hy=>by simp only[AV.flat,wC]at hy;subst hy;exact h
theorem ze5 :∀(l:List AV),zcy l=true->∀y∈AV.flats l,zc5 y=true
 | [],_,y,hy=>by simp[AV.flats]at hy
 | a::l,h,y,hy=>by
   simp only[zcy,wS]at h
   rw[AV.flats,List.mem_append]at hy
   rcases hy with hy|hy
   . exact zjr a h.1 y hy
   . exact ze5 l h.2 y hy
end
theorem RepV.rename {v:Value}{x:AV}{d:Nat}(h:RepV H G v x)(himm:zc5 x=true\/∀b,G.imm b->G'.imm b)(hyl:∀i l,G.yl i=some l->G'.yl i=some l)
  (hk:∀k∈x.refs,G'.reg (ren d k)=G.reg k):RepV H G' v (rn d x):=by
 obtain⟨h1,h2,vs,h3,h4⟩:=h
 refine⟨by rw[z5c];exact h1,qf2 d x h2,vs,?_,by rw[zlx (z5d d x)];exact h4⟩
 rw[zs4 d x h2]
 refine⟨by rw[zc9];exact h3.len,fun j a b=> ?_⟩
 have b':j<x.flat.length:=by rw[zc9]at b;exact b
 have e:(rns d x.flat)[j]=rn d x.flat[j]:=by simp[zfb]
 rw[e]
 refine(h3.get j a b').rename (fun hni=> ?_) hyl fun k h=>hk k (zfw x h2 _ (wB b') k h)
 rcases himm with h|h
 . rw[zjr x h _ (wB b')]at hni;cases hni
 . exact h
theorem RepT.rename {v:Value}{x:AV}{d:Nat}(h:RepT H G v x)(himm:zc5 x=true\/∀b,G.imm b->G'.imm b)(hyl:∀i l,G.yl i=some l->G'.yl i=some l)
  (hk:∀k∈x.refs,G'.reg (ren d k)=G.reg k):RepT H G' v (rn d x):=by
 cases x with
 | unk=>trivial
 | tup l =>
   obtain⟨vs,hv,hs,hr⟩:=h
   refine⟨vs,hv,by rw[zc9];exact hs,fun i a b=> ?_⟩
   have b':i<l.length:=by rw[zc9]at b;exact b
   have e:(rns d l)[i]=rn d l[i]:=by simp[zfb]
   rw[e]
   refine(hr i a b').rename (himm.imp (fun h=> ?_) id) hyl fun k h=>hk k (by rw[AV.refs];exact za9 (wB b') h)
   rw[zc5]at h;exact zjq h _ (wB b')
 | _=>exact RepV.rename h himm hyl hk
end Go.Ev
namespace Go.Ev
open Go
variable {H H':Heap} {G G':Gh}
mutual
theorem z5r (ρ:Nat->Nat):∀(a:AV),a.plain=true->rA ρ a=a
 | .agg _,_=>rfl
 | .bool _,_=>rfl
 | .int _ _,_=>rfl
 | .str _,_=>rfl
 | .s _,_=>rfl
 | .lst _ _ _,_=>rfl
 | .cp _ _,_=>rfl
 | .unk,h=>by cases h
 | .aggR _,h=>by cases h
 | .tup _,h=>by cases h
 | .sl _ _ _ _,h=>by cases h
 | .ptr _ _,h=>by cases h
 | .arp _ _ _ _,h=>by cases h
 | .fn _ _,h=>by cases h
 | .yld _,h=>by cases h
 | .mp _,h=>by cases h
end
theorem za0 (ρ:Nat->Nat):∀(l:List AV),(rAs ρ l).length=l.length
 | []=>rfl
 | a::l=>by simp[rAs,za0 ρ l]
theorem zcb (ρ:Nat->Nat):∀(l:List AV),rAs ρ l=l.map (rA ρ)
 | []=>rfl
 | a::l=>by simp[rAs,zcb ρ l]
mutual
theorem zq0 (ρ:Nat->Nat):∀(a:AV),(rA ρ a).scalar=a.scalar
 | .agg _=>rfl
 | .bool _=>rfl
 | .int _ _=>rfl
 | .str _=>rfl
 | .s _=>rfl
 | .lst _ _ _=>rfl
 | .cp _ _=>rfl
 | .unk=>rfl
 | .aggR _=>rfl
 | .tup _=>rfl
 | .sl _ _ _ _=>rfl
 | .ptr _ _=>rfl
 | .arp _ _ _ _=>rfl
 | .fn _ _=>rfl
 | .yld _=>rfl
 | .mp _=>rfl
end
theorem zo1 (ρ:Nat->Nat)(a:AV):(rA ρ a).isAgg=a.isAgg:=by cases a<;>rfl
theorem z5s (ρ:Nat->Nat)(a:AV):(rA ρ a).known=a.known:=by cases a<;>rfl
theorem zls (ρ:Nat->Nat):∀(l:List AV),AV.scalars (rAs ρ l)=AV.scalars l
 | []=>rfl
 | a::l=>by simp[rAs,AV.scalars,zq0,zls ρ l]
mutual
theorem qbs (ρ:Nat->Nat):∀(a:AV),a.wf->(rA ρ a).wf
 | .agg _,h=>h
 | .bool _,h=>h
 | .int _ _,h=>h
 | .str _,h=>h
 | .s _,h=>h
 | .lst _ _ _,h=>h
 | .cp _ _,h=>h
 | .unk,h=>h
 | .aggR l,h=>by rw[AV.wf]at h;rw[rA,AV.wf];exact z0m ρ l h
 | .tup l,h=>by rw[AV.wf]at h;rw[rA,AV.wf];exact z0m ρ l h
 | .sl _ _ _ _,_=>trivial
 | .ptr _ _,_=>trivial
 | .arp _ _ _ _,_=>trivial
 | .fn _ _,_=>trivial
 | .yld _,_=>trivial
 | .mp _,_=>trivial
theorem z0m (ρ:Nat->Nat):∀(l:List AV),AV.wfs l->AV.wfs (rAs ρ l)
 | [],_=>trivial
 | a::l,h=>⟨qbs ρ a h.1,z0m ρ l h.2⟩
end
mutual
theorem zo3 (ρ:Nat->Nat):∀(a:AV),a.wf->(rA ρ a).flat=rAs ρ a.flat
 | .agg l,h=>by
   rw[AV.wf]at h
   show(AV.agg l).flat=rAs ρ (AV.agg l).flat
   simp only[AV.flat]
   exact zgz ρ l h
 | .bool _,_=>rfl
 | .int _ _,_=>rfl
 | .str _,_=>rfl
 | .s _,_=>rfl
 | .lst _ _ _,_=>rfl
 | .cp _ _,_=>rfl
 | .unk,_=>rfl
 | .aggR l,h=>by
   rw[AV.wf]at h
   rw[rA,AV.flat,AV.flat];exact zqz ρ l h
 | .tup _,_=>rfl
 | .sl _ _ _ _,_=>rfl
 | .ptr _ _,_=>rfl
 | .arp _ _ _ _,_=>rfl
 | .fn _ _,_=>rfl
 | .yld _,_=>rfl
 | .mp _,_=>rfl
theorem zqz (ρ:Nat->Nat):∀(l:List AV),AV.wfs l->AV.flats (rAs ρ l)=rAs ρ (AV.flats l)
 | [],_=>rfl
 | a::l,h=>by
   rw[rAs,AV.flats,AV.flats,zo3 ρ a h.1,zqz ρ l h.2,zcb,zcb,zcb,wE]
theorem zgz (ρ:Nat->Nat):∀(l:List AV),AV.wfp l->AV.flats l=rAs ρ (AV.flats l)
 | [],_=>rfl
 | a::l,h=>by
   have h1:a.flat=rAs ρ a.flat:=by rw[<-zo3 ρ a h.2.1,z5r ρ a h.1]
   rw[AV.flats,zcb,wE,<-zcb,<-zcb,<-h1,<-zgz ρ l h.2.2]
end
theorem RepS.renA {v:Value}{x:AV}{ρ:Nat->Nat}(h:RepS H G v x)(himm:zc5 x=false->∀b,G.imm b->G'.imm b)(hyl:∀i l,G.yl i=some l->G'.yl i=some l) :
  (∀k∈x.refs,G'.reg (ρ k)=G.reg k)->RepS H G' v (rA ρ x):=by
 induction h with
 | bool b=>exact fun _=>.bool b
 | int k n=>exact fun _=>.int k n
 | str l=>exact fun _=>.str l
 | s v h=>exact fun _=>.s v h
 | ptr k p b root off hr ho=>exact fun hk=>.ptr _ p b root off ((hk k (by simp[AV.refs])).trans hr) ho
 | arp k p off n b root m e o hr hs ho hle=>exact fun hk=>.arp _ p off n b root m e o ((hk k (by simp[AV.refs])).trans hr) hs ho hle
 | sl k p off len b root m e o hr hs ho hle=>exact fun hk=>.sl _ p off len b root m e o ((hk k (by simp[AV.refs])).trans hr) hs ho hle
 | slZ k p off b x root m e hr hs ho=>exact fun hk=>.slZ _ p off b x root m e ((hk k (by simp[AV.refs])).trans hr) hs ho
 | slNil k a hr=>exact fun hk=>.slNil _ a ((hk k (by simp[AV.refs])).trans hr)
 | lstE full sh a cap h=>exact fun _=>.lstE full sh a cap h
 | lst full sh l b off len cap c e fz hi hb hl hc hf hsh val hv hr ih =>
   intro _
   by_cases h0:l=[]
   . subst h0
     simp only[wJ]at hl
     subst hl
     exact .lstE full sh _ cap fun h=>hf h
   . have himm':=himm (by unfold zc5;simpa using h0)
     exact .lst full sh l b off len cap c e fz (himm' _ hi) hb hl hc hf hsh val hv fun j hj=>(hr j hj).cut himm' hyl fun k hk=>by
      rw[zb8 l ((AV.wfp_iff l).2 fun x hx=>(hsh x hx).2) _ (wB hj)]at hk;cases hk
 | cp sh a b off c e fz hi hb hsh val hv hr ih =>
   intro _
   have himm':=himm rfl
   exact .cp sh a b off c e fz (himm' _ hi) hb hsh val hv fun j hj=>(hr j hj).cut himm' hyl fun k hk=>by rw[zen a hsh.2.1 hsh.2.2 _ (wB hj)]at hk;cases hk
 | fn v f caps vs he hn hsc val hv hr ih =>
   intro hk
   have himm':=himm rfl
   refine .fn v f (rAs ρ caps) vs he (by rw[za0];exact hn) (by rw[zls];exact hsc) val (fun i hi=>hv i (by rw[za0]at hi;exact hi)) fun i hi=> ?_
   have hi':i<caps.length:=by rw[za0]at hi;exact hi
   have:(rAs ρ caps)[i]=rA ρ caps[i]:=by simp[zcb]
   rw[this]
   exact ih i hi' (fun _=>himm') fun k h=>hk k (by rw[AV.refs];exact za9 (wB hi') h)
 | yld k b hr=>exact fun hk=>.yld _ b ((hk k (by simp[AV.refs])).trans hr)
 | mp k b hr=>exact fun hk=>.mp _ b ((hk k (by simp[AV.refs])).trans hr)
theorem RepV.renA {v:Value}{x:AV}{ρ:Nat->Nat}(h:RepV H G v x)(himm:zc5 x=true\/∀b,G.imm b->G'.imm b)(hyl:∀i l,G.yl i=some l->G'.yl i=some l)
  (hk:∀k∈x.refs,G'.reg (ρ k)=G.reg k):RepV H G' v (rA ρ x):=by
 obtain⟨h1,h2,vs,h3,h4⟩:=h
 refine⟨by rw[z5s];exact h1,qbs ρ x h2,vs,?_,by rw[zlx (zo1 ρ x)];exact h4⟩
 rw[zo3 ρ x h2]
 refine⟨by rw[za0];exact h3.len,fun j a b=> ?_⟩
 have b':j<x.flat.length:=by rw[za0]at b;exact b
 have e:(rAs ρ x.flat)[j]=rA ρ x.flat[j]:=by simp[zcb]
 rw[e]
 refine(h3.get j a b').renA (fun hni=> ?_) hyl fun k h=>hk k (zfw x h2 _ (wB b') k h)
 rcases himm with h|h
 . rw[zjr x h _ (wB b')]at hni;cases hni
 . exact h
theorem RepT.renA {v:Value}{x:AV}{ρ:Nat->Nat}(h:RepT H G v x)(himm:zc5 x=true\/∀b,G.imm b->G'.imm b)(hyl:∀i l,G.yl i=some l->G'.yl i=some l)
  (hk:∀k∈x.refs,G'.reg (ρ k)=G.reg k):RepT H G' v (rA ρ x):=by
 cases x with
 | unk=>trivial
 | tup l =>
   obtain⟨vs,hv,hs,hr⟩:=h
   refine⟨vs,hv,by rw[za0];exact hs,fun i a b=> ?_⟩
   have b':i<l.length:=by rw[za0]at b;exact b
   have e:(rAs ρ l)[i]=rA ρ l[i]:=by simp[zcb]
   rw[e]
   refine(hr i a b').renA (himm.imp (fun h=> ?_) id) hyl fun k h=>hk k (by rw[AV.refs];exact za9 (wB b') h)
   rw[zc5]at h;exact zjq h _ (wB b')
 | _=>exact RepV.renA h himm hyl hk
section
variable {H H':Heap} {G G':Gh} {hp:Hp}
mutual
theorem zo2 (ρ:Nat->Nat):∀(s:Sh) (a:AV),zao s (rA ρ a)=zao s a
 | .sc,a=>by simp only[zao];exact zq0 ρ a
 | .st fs,a=>by
   simp only[zao,zo1]
   cases a with
   | aggR l=>simp only[rA,AV.kids];rw[zq1 ρ fs l]
   | _=>rfl
 | .ar n e,a=>by
   simp only[zao,zo1]
   cases a with
   | aggR l=>simp only[rA,AV.kids,za0];rw[zq2 ρ e l]
   | _=>rfl
theorem zq1 (ρ:Nat->Nat):∀(fs:List Sh) (l:List AV),za8 fs (rAs ρ l)=za8 fs l
 | [],[]=>rfl
 | s::fs,a::l=>by rw[rAs,za8,za8,zo2 ρ s a,zq1 ρ fs l]
 | [],_::_=>rfl
 | _::_,[]=>rfl
theorem zq2 (ρ:Nat->Nat):∀(e:Sh) (l:List AV),(rAs ρ l).all (zao e)=l.all (zao e)
 | _,[]=>rfl
 | e,a::l=>by rw[rAs,wK,wK,zo2 ρ e a,zq2 ρ e l]
end
theorem z5q {c:Array Value}{off:Nat}{l:List AV}{ρ:Nat->Nat}(h:RepC H G c off l)(himm:∀b,G.imm b->G'.imm b)(hyl:∀i l,G.yl i=some l->G'.yl i=some l)
  (hk:∀x∈l,∀k∈x.refs,G'.reg (ρ k)=G.reg k):RepC H G' c off (rAs ρ l):=by
 intro j hj
 have hj':j<l.length:=by rw[za0]at hj;exact hj
 obtain⟨v,hv,hr⟩:=h j hj'
 refine⟨v,hv,?_⟩
 have e:(rAs ρ l)[j]=rA ρ l[j]:=by simp[zcb]
 rw[e]
 exact hr.renA (fun _=>himm) hyl (hk _ (wB hj'))
theorem ziz {k k':Nat}{o:OB}{ρ:Nat->Nat}(h:ObOk H G k o)(hreg:G'.reg k'=G.reg k)(himm:∀b,G.imm b->G'.imm b)(hyl:∀i l,G.yl i=some l->G'.yl i=some l)
  (hk:∀j∈zev o,G'.reg (ρ j)=G.reg j):ObOk H G' k' (rOB ρ o):=by
 cases o with
 | fix sh a =>
   obtain⟨b,c,e,fz,h1,h2,h3,h4,h5,h6,h7⟩:=h
   refine⟨b,c,e,fz,hreg.trans h1,h2,h3,h4,by rw[zo2];exact h5,qbs ρ a h6,?_⟩
   rw[zo3 ρ a h6]
   exact z5q h7 himm hyl fun x hx j hj=>hk j (zfw a h6 x hx j hj)
 | grow sh els =>
   rcases h with ⟨h1,h2⟩|⟨b,cap,c,e,fz,h1,h2,h3,h4,h5,h6,h7⟩
   . exact .inl ⟨h1,hreg.trans h2⟩
   . refine .inr ⟨b,cap,c,e,fz,hreg.trans h1,h2,h3,h4,h5,h6,fun j hj=> ?_⟩
     obtain⟨v,hv,hr⟩:=h7 j hj
     exact⟨v,hv,hr.cut himm hyl fun q hq=>by rw[zb8 els ((AV.wfp_iff els).2 fun y hy=>(h6 y hy).2) _ (wB hj)]at hq;cases hq⟩
 | dead=>obtain⟨r,hr⟩:=h;exact⟨r,hreg.trans hr⟩
 | lp rid vals s =>
   obtain⟨b,rc,info,h1,h2,h3,h4,h5⟩:=h
   refine⟨b,rc,info,hreg.trans h1,h2,hyl _ _ h3,h4,by rw[za0];exact h5.len,fun j hj=> ?_⟩
   have hj':j<vals.length:=by rw[za0]at hj;exact hj
   have e:(rAs ρ vals)[j]=rA ρ vals[j]:=by simp[zcb]
   rw[e]
   exact(h5.get j hj').renA (.inr himm) hyl fun q hq=>hk q (za9 (wB hj') hq)
 | mp es c=>obtain⟨b,h1,h2,h3⟩:=h;exact⟨b,hreg.trans h1,h2,h3⟩
theorem zhj {ρ:Nat->Nat}{o:OB}(h:rOB ρ o≠.dead):o≠.dead:=fun e=>h (by rw[e];rfl)
end
end Go.Ev
namespace Go.Ev
open Go
variable {H :Heap} {G:Gh} {st st1 acc:St} {tmps:Array Value}
theorem zcs :∀{l:List Nat},zgq l=true↔l.Nodup
 | []=>by simp[zgq]
 | a::l=>by simp[zgq,zcs (l:=l)]
def FromHp (st:St)(ks:List Kp)(k:Nat)(o:OB):Prop :=
 (Kp.key k∈ks/\st.hp.get k=some o) \/
 ∃i sh,Kp.own i k sh∈ks/\((∃k' n els,st.fr.get i= .sl k' [] 0 n/\st.hp.get k'=some (.grow sh els)/\o= .grow sh els)\/((∃sh0,st.fr.get i= .lst true sh0 [])/\o= .grow sh []))
def FromFr (st:St)(ks:List Kp)(i:Nat)(a:AV):Prop :=
 (Kp.slot i∈ks/\a=st.fr.get i) \/
 ∃k sh,Kp.own i k sh∈ks/\((∃k' n els,st.fr.get i= .sl k' [] 0 n/\st.hp.get k'=some (.grow sh els)/\n=els.length/\a= .sl k [] 0 n)\/((∃sh0,st.fr.get i= .lst true sh0 [])/\a= .sl k [] 0 0))
theorem zxo {x:Kp}(h:ztn st acc x=some st1) :
  (∀k o,st1.hp.get k=some o->acc.hp.get k=some o\/FromHp st [x] k o)/\(∀i,st1.fr.get i=acc.fr.get i\/FromFr st [x] i (st1.fr.get i)) /\
  (∀k,acc.hp.get k≠none->st1.hp.get k≠none)/\(∀k∈Kp.keys [x]++Kp.owns [x],st1.hp.get k≠none):=by
 cases x with
 | mv q p k=>simp[ztn]at h
 | slot i =>
   simp only[ztn,wO]at h
   subst h
   refine⟨fun k o h=>.inl h,fun j=> ?_,fun k h=>h,fun k hk=>by simp[Kp.keys,Kp.owns]at hk⟩
   by_cases hj:i=j
   . subst hj;exact .inr (.inl ⟨by simp,by simp[Fr.get]⟩)
   . left;simp[Fr.get,hj]
 | key k =>
   simp only[ztn]at h
   split at h
   . rename_i o ho
     cases h
     refine⟨fun j o' hj=> ?_,fun j=>.inl rfl,fun j hj=> ?_,fun j hj=> ?_⟩
     . rw[Hp.get_cons]at hj
       by_cases hk:k=j
       . subst hk;simp only[if_true,wO]at hj;subst hj;exact .inr (.inl ⟨by simp,ho⟩)
       . simp only[hk,if_false]at hj;exact .inl hj
     . rw[Hp.get_cons];split
       . simp
       . exact hj
     . simp only[Kp.keys,Kp.owns,wN,wC]at hj
       subst hj;simp[Hp.get_cons]
   . cases h
 | own i k sh =>
   simp only[ztn]at h
   split at h
   . rename_i k' n hfr
     split at h
     . rename_i sh' els hk'
       rw[wQ,wS,decide_eq_true_eq]at h
       obtain⟨⟨hb,hn⟩,h⟩:=h
       have hb:=Sh.beq_eq hb
       subst hb
       cases h
       refine⟨fun j o' hj=> ?_,fun j=> ?_,fun j hj=> ?_,fun j hj=> ?_⟩
       . rw[Hp.get_cons]at hj
         by_cases hk:k=j
         . subst hk;simp only[if_true,wO]at hj;subst hj
           exact .inr (.inr ⟨i,sh,by simp,.inl ⟨k',n,els,hfr,hk',rfl⟩⟩)
         . simp only[hk,if_false]at hj;exact .inl hj
       . by_cases hij:i=j
         . subst hij;exact .inr (.inr ⟨k,sh,by simp,.inl ⟨k',n,els,hfr,hk',hn,by simp[Fr.get]⟩⟩)
         . left;simp[Fr.get,hij]
       . rw[Hp.get_cons];split
         . simp
         . exact hj
       . simp only[Kp.keys,Kp.owns,wM,wC]at hj
         subst hj;simp[Hp.get_cons]
     . cases h
   . rename_i sh0 hfr
     cases h
     refine⟨fun j o' hj=> ?_,fun j=> ?_,fun j hj=> ?_,fun j hj=> ?_⟩
     . rw[Hp.get_cons]at hj
       by_cases hk:k=j
       . subst hk;simp only[if_true,wO]at hj;subst hj
         exact .inr (.inr ⟨i,sh,by simp,.inr ⟨⟨sh0,hfr⟩,rfl⟩⟩)
       . simp only[hk,if_false]at hj;exact .inl hj
     . by_cases hij:i=j
       . subst hij;exact .inr (.inr ⟨k,sh,by simp,.inr ⟨⟨sh0,hfr⟩,by simp[Fr.get]⟩⟩)
       . left;simp[Fr.get,hij]
     . rw[Hp.get_cons];split
       . simp
       . exact hj
     . simp only[Kp.keys,Kp.owns,wM,wC]at hj
       subst hj;simp[Hp.get_cons]
   . cases h
theorem FromHp.mono {ks ks':List Kp}{k:Nat}{o:OB}(h:FromHp st ks k o)(hs:∀x∈ks,x∈ks'):FromHp st ks' k o:=by
 rcases h with ⟨h1,h2⟩|⟨i,sh,h1,h2⟩
 . exact .inl ⟨hs _ h1,h2⟩
 . exact .inr ⟨i,sh,hs _ h1,h2⟩
theorem FromFr.mono {ks ks':List Kp}{i:Nat}{a:AV}(h:FromFr st ks i a)(hs:∀x∈ks,x∈ks'):FromFr st ks' i a:=by
 rcases h with ⟨h1,h2⟩|⟨k,sh,h1,h2⟩
 . exact .inl ⟨hs _ h1,h2⟩
 . exact .inr ⟨k,sh,hs _ h1,h2⟩
theorem z1q (x:Kp)(l:List Kp)(k:Nat):k∈Kp.keys (x::l)++Kp.owns (x::l)↔k∈Kp.keys [x]++Kp.owns [x]\/k∈Kp.keys l++Kp.owns l:=by
 cases x<;>simp[Kp.keys,Kp.owns,or_assoc,or_left_comm]
theorem zno :∀{ks:List Kp} {acc:St},zxn st ks acc=some st1 ->
  (∀k o,st1.hp.get k=some o->acc.hp.get k=some o\/FromHp st ks k o)/\(∀i,st1.fr.get i=acc.fr.get i\/FromFr st ks i (st1.fr.get i)) /\
  (∀k,acc.hp.get k≠none->st1.hp.get k≠none)/\(∀k∈Kp.keys ks++Kp.owns ks,st1.hp.get k≠none)
 | [],acc,h=>by
   simp only[zxn,wO]at h
   subst h
   exact⟨fun k o h=>.inl h,fun i=>.inl rfl,fun k h=>h,fun k hk=>by simp[Kp.keys,Kp.owns]at hk⟩
 | x::l,acc,h=>by
   simp only[zxn,wP]at h
   obtain⟨a2,h1,h2⟩:=h
   obtain⟨p1,p2,p3,p4⟩:=zxo h1
   obtain⟨q1,q2,q3,q4⟩:=zno h2
   have hx:∀y∈[x],y∈x::l:=fun y hy=>by simp at hy;simp[hy]
   have hl:∀y∈l,y∈x::l:=fun y hy=>by simp[hy]
   refine⟨fun k o hk=> ?_,fun i=> ?_,fun k hk=>q3 k (p3 k hk),fun k hk=> ?_⟩
   . rcases q1 k o hk with h|h
     . exact(p1 k o h).imp id (·.mono hx)
     . exact .inr (h.mono hl)
   . rcases q2 i with h|h
     . rcases p2 i with h'|h'
       . exact .inl (h.trans h')
       . rw[h];exact .inr (h'.mono hx)
     . exact .inr (h.mono hl)
   . rcases(z1q x l k).1 hk with h|h
     . exact q3 k (p4 k h)
     . exact q4 k h
def ownI :List Kp->Nat->Option Nat
 | [],_=>none
 | .own i k _::l,j=>if k=j then some i else ownI l j
 | _::l,j=>ownI l j
theorem zk0 {ks:List Kp}{i k:Nat}{sh:Sh}(h:Kp.own i k sh∈ks):k∈Kp.owns ks:=by
 induction ks with
 | nil=>cases h
 | cons x l ih =>
   rcases wD.1 h with rfl|h'
   . simp[Kp.owns]
   . cases x<;>simp[Kp.owns,ih h']
theorem zpa {ks:List Kp}{k:Nat}:Kp.key k∈ks↔k∈Kp.keys ks:=by
 induction ks with
 | nil=>simp[Kp.keys]
 | cons x l ih=>cases x<;>simp[Kp.keys,ih]
theorem zu4 {ks:List Kp}(hn:(Kp.owns ks).Nodup){i k:Nat}{sh:Sh}(h:Kp.own i k sh∈ks):ownI ks k=some i:=by
 induction ks with
 | nil=>cases h
 | cons x l ih =>
   rcases wD.1 h with rfl|h'
   . simp[ownI]
   . cases x with
     | own i' k' sh' =>
       simp only[Kp.owns,wH]at hn
       have hne:k'≠k:=fun e=>hn.1 (e▸zk0 h')
       simp only[ownI,hne,if_false]
       exact ih hn.2 h'
     | _=>exact ih hn h'
theorem zu5 {ks:List Kp}{i k:Nat}(h:ownI ks k=some i):∃sh,Kp.own i k sh∈ks:=by
 induction ks with
 | nil=>cases h
 | cons x l ih =>
   cases x with
   | own i' k' sh' =>
     simp only[ownI]at h
     split at h
     . rename_i hk;cases h;subst hk;exact⟨sh',by simp⟩
     . obtain⟨sh,h⟩:=ih h;exact⟨sh,by simp[h]⟩
   | _=>obtain⟨sh,h⟩:=ih h;exact⟨sh,by simp[h]⟩
theorem zhn {ks:List Kp}{i k k' n:Nat}{sh:Sh}{p:List Nat}{off:Nat}(h:Kp.own i k sh∈ks)(hf:st.fr.get i= .sl k' p off n):k'∈Kp.ownSrc st ks:=by
 induction ks with
 | nil=>cases h
 | cons x l ih =>
   rcases wD.1 h with rfl|h'
   . simp[Kp.ownSrc,hf]
   . cases x<;>simp[Kp.ownSrc,ih h']
theorem zxg {ks:List Kp}(hn:(Kp.ownSrc st ks).Nodup){i1 i2 k1 k2 k' n1 n2:Nat}{s1 s2:Sh}{p1 p2:List Nat}{o1 o2:Nat}(h1:Kp.own i1 k1 s1∈ks)(h2:Kp.own i2 k2 s2∈ks)
  (f1:st.fr.get i1= .sl k' p1 o1 n1) (f2:st.fr.get i2= .sl k' p2 o2 n2):k1=k2:=by
 induction ks with
 | nil=>cases h1
 | cons x l ih =>
   have hl:(Kp.ownSrc st l).Nodup:=by
    cases x with
    | own i k sh=>simp only[Kp.ownSrc]at hn;exact(wF.1 hn).2.1
    | _=>exact hn
   rcases wD.1 h1 with e1|h1'
   . rcases wD.1 h2 with e2|h2'
     . rw[<-e1]at e2;cases e2;rfl
     . subst e1
       simp only[Kp.ownSrc,f1,wL,wH]at hn
       exact absurd (zhn h2' f2) hn.1
   . rcases wD.1 h2 with e2|h2'
     . subst e2
       simp only[Kp.ownSrc,f2,wL,wH]at hn
       exact absurd (zhn h1' f1) hn.1
     . exact ih hl h1' h2'
theorem zot {ks:List Kp}{i:Nat}(h:Kp.slot i∈ks):∀k∈(st.fr.get i).refs,k∈Kp.slotRefs st ks:=by
 induction ks with
 | nil=>cases h
 | cons x l ih =>
   intro k hk
   rcases wD.1 h with rfl|h'
   . simp[Kp.slotRefs,hk]
   . cases x<;>simp[Kp.slotRefs,ih h' k hk]
theorem zql {ks:List Kp}{j:Nat}{o:OB}(h:Kp.key j∈ks)(hj:st.hp.get j=some o):∀k∈zev o,k∈Kp.slotRefs st ks:=by
 induction ks with
 | nil=>cases h
 | cons x l ih =>
   intro k hk
   rcases wD.1 h with rfl|h'
   . simp[Kp.slotRefs,hj,zl2,hk]
   . cases x<;>simp[Kp.slotRefs,ih h' k hk]
open Classical in
noncomputable def zhu (G:Gh)(st:St)(ks:List Kp)(k:Nat):Option Rg :=
 if k∈Kp.keys ks then G.reg k else
 match ownI ks k with
 | some i=>(match st.fr.get i with| .sl k' _ _ _=>G.reg k'|_=>some .nil)
 | none=>none
open Classical in
noncomputable def zgm (st:St)(ks:List Kp)(k:Nat):Nat :=
 if k∈Kp.keys ks then k else
 match ownI ks k with
 | some i=>(match st.fr.get i with| .sl k' _ _ _=>k'|_=>k)
 | none=>k
noncomputable def zdw (G:Gh)(st:St)(ks:List Kp):Gh:={G with reg:=zhu G st ks}
theorem z3x {ks:List Kp}(hst:StOk H G st tmps)(h:zwe ks st=some st1):StOk H (zdw G st ks) st1 tmps/\Move H G st.hp H (zdw G st ks) st1.hp:=by
 unfold zwe at h
 rw[wQ,wS,wS,zcs,zcs,List.all_eq_true]at h
 obtain⟨⟨⟨hn1,hn2⟩,hrefs⟩,h⟩:=h
 obtain⟨q1,q2,_,q4⟩:=zno h
 have hn1':=wF.1 hn1
 have hn2':=wF.1 hn2
 have hkey:∀k,k∈Kp.keys ks->(zdw G st ks).reg k=G.reg k/\zgm st ks k=k:=fun k hk=>by
  simp[zdw,zhu,zgm,hk]
 have hnk:∀{i k sh},Kp.own i k sh∈ks->k∉Kp.keys ks:=fun{i k sh} ho hk=>hn1'.2.2 k hk k (zk0 ho) rfl
 have hown:∀{i k k' n sh p off},Kp.own i k sh∈ks->st.fr.get i= .sl k' p off n->(zdw G st ks).reg k=G.reg k'/\zgm st ks k=k':=fun{i k k' n sh p off} ho hf=>by
  have h1:=hnk ho
  have h2:=zu4 hn1'.2.1 ho
  simp[zdw,zhu,zgm,h1,h2,hf]
 have hnil:∀{i k sh sh0 l},Kp.own i k sh∈ks->st.fr.get i= .lst true sh0 l->(zdw G st ks).reg k=some .nil:=fun{i k sh sh0 l} ho hf=>by
  have h1:=hnk ho
  have h2:=zu4 hn1'.2.1 ho
  simp[zdw,zhu,h1,h2,hf]
 have hrefs':∀k∈Kp.slotRefs st ks,k∈Kp.keys ks:=fun k hk=>by simpa using hrefs k hk
 have q1':∀k o,st1.hp.get k=some o->FromHp st ks k o:=fun k o hk=>by
  rcases q1 k o hk with h|h
  . simp[Hp.get]at h
  . exact h
 obtain⟨hinv,hlive⟩:=z12 (G':=zdw G st ks) (hp':=st1.hp) hst.inv (zgm st ks) (fun b=>Iff.rfl) (fun i l h=>h)
  (fun k o hk=>by
    rcases q1' k o hk with ⟨h1,h2⟩|⟨i,sh,ho,⟨k',n,els,hf,hk',rfl⟩|⟨⟨sh0,hf⟩,rfl⟩⟩
    . have hm:=zpa.1 h1
      obtain⟨e1,e2⟩:=hkey k hm
      left
      refine⟨by rw[e2];exact h2,by rw[e1,e2],fun j hj=> ?_⟩
      exact(hkey j (hrefs' j (zql h1 h2 j hj))).1
    . obtain⟨e1,e2⟩:=hown ho hf
      left
      exact⟨by rw[e2];exact hk',by rw[e1,e2],fun j hj=>by cases hj⟩
    . exact .inr ⟨sh,rfl,hnil ho hf⟩)
  (fun k hk=>by
    have h1:k∉Kp.keys ks:=fun h=>q4 k (List.mem_append_left _ h) hk
    have h2:ownI ks k=none:=by
     cases hi:ownI ks k with
     | none=>rfl
     | some i=>obtain⟨sh,hm⟩:=zu5 hi;exact absurd hk (q4 k (List.mem_append_right _ (zk0 hm)))
    simp[zdw,zhu,h1,h2])
  (fun k k' b r r' hk hk' hr hr' he=>by
    have cases':∀k r,za7 st1.hp k->(zdw G st ks).At k b r->(k∈Kp.keys ks/\zgm st ks k=k)\/∃i sh k2 n p off,Kp.own i k sh∈ks/\st.fr.get i= .sl k2 p off n/\zgm st ks k=k2:=by
     rintro k r ⟨o,ho,_⟩ hr
     rcases q1' k o ho with ⟨h1,h2⟩|⟨i,sh,ho,⟨k2,n,els,hf,hk',_⟩|⟨⟨sh0,hf⟩,_⟩⟩
     . exact .inl ⟨zpa.1 h1,(hkey k (zpa.1 h1)).2⟩
     . exact .inr ⟨i,sh,k2,n,[],0,ho,hf,(hown ho hf).2⟩
     . obtain⟨q,hq,hat⟩:=hr;rw[hnil ho hf]at hq;cases hq;exact hat.elim
    rcases cases' k r hk hr with ⟨m1,e1⟩|⟨i1,s1,a1,n1,p1,o1,ho1,hf1,e1⟩
    . rcases cases' k' r' hk' hr' with ⟨m2,e2⟩|⟨i2,s2,a2,n2,p2,o2,ho2,hf2,e2⟩
      . rw[e1,e2]at he;exact he
      . exfalso
        rw[e1,e2]at he
        subst he
        exact hn2'.2.2 k m1 k (zhn ho2 hf2) rfl
    . rcases cases' k' r' hk' hr' with ⟨m2,e2⟩|⟨i2,s2,a2,n2,p2,o2,ho2,hf2,e2⟩
      . exfalso
        rw[e1,e2]at he
        subst he
        exact hn2'.2.2 _ m2 _ (zhn ho1 hf1) rfl
      . rw[e1,e2]at he
        subst he
        exact zxg hn2'.2.1 ho1 ho2 hf1 hf2)
 refine⟨⟨hinv,fun i=> ?_⟩,⟨hinv,Nat.le_refl _,fun b hb=>⟨hb,rfl⟩,fun i l h=>h,fun b _ _=>rfl,fun b hb=>.inl (hlive b hb),fun b hb=>.inl hb⟩⟩
 rcases q2 i with h|⟨hm,h⟩|⟨k,sh,ho,⟨k',n,els,hf,hk',hlen,h⟩|⟨⟨sh0,hf⟩,h⟩⟩
 . rw[h];simp only[Fr.get];trivial
 . rw[h]
   exact(hst.fr i).cut (fun b h=>h) (fun i l h=>h) fun k hk=>(hkey k (hrefs' k (zot hm k hk))).1
 . rw[h]
   have hr:=hst.fr i
   rw[hf,zag rfl]at hr
   rw[zag rfl]
   obtain⟨e1,_⟩:=hown ho hf
   generalize tmps.getD i undef=v at hr ⊢
   cases hr with
   | sl _ _ _ _ b root m e o hr hs ho hle=>exact .sl k [] 0 n b root m e o (e1.trans hr) hs ho hle
   | slZ _ _ _ b x root m e hr hs ho=>exact .slZ k [] 0 b x root m e (e1.trans hr) hs ho
   | slNil _ a hr=>exact .slNil k a (e1.trans hr)
 . rw[h]
   have hr:=hst.fr i
   rw[hf,zag rfl]at hr
   rw[zag rfl]
   have e1:=hnil ho hf
   obtain⟨b,cap,he,_,hc,_,_⟩:=zdy hr
   have:=hc rfl
   simp only[wJ]at this he
   subst this
   rw[he]
   exact .slNil k b e1
theorem zl9 :∀{ks:List Kp},ksLt ks=true->∀k∈Kp.owns ks,k<SHK
 | [],_,k,h=>by cases h
 | x::l,hl,k,h=>by
   cases x with
   | own j q sh =>
     simp only[ksLt,wS,decide_eq_true_eq]at hl
     simp only[Kp.owns,wD]at h
     rcases h with rfl|h
     . exact hl.1
     . exact zl9 hl.2 k h
   | _=>exact zl9 (by simpa[ksLt]using hl) k (by simpa[Kp.owns]using h)
theorem zq9 :∀{n i:Nat} {hp:Hp},Kp.owns (bigs hp n i)=[]
 | 0,i,hp=>rfl
 | n+1,i,hp=>by
   rw[bigs];split
   . exact zq9 (n:=n) (i:=i+1)
   . rfl
theorem zl0 :∀{a b:List Kp},Kp.owns (a++b)=Kp.owns a++Kp.owns b
 | [],b=>rfl
 | x::a,b=>by cases x<;>simp[Kp.owns,zl0 (a:=a) (b:=b)]
theorem zt9 {ks:List Kp}(hk:ksLt ks=true){q:Nat}(hq:SHK<=q){r:Rg}(h:(zdw G st (ksA ks st)).reg q=some r):G.reg q=some r:=by
 simp only[zdw,zhu]at h
 split at h
 . exact h
 . split at h
   . rename_i i hi
     exfalso
     obtain⟨sh,this⟩:=zu5 hi
     have this:=zk0 this
     unfold ksA at this
     rw[zl0,zq9,wN]at this
     exact absurd (zl9 hk q this) (Nat.not_lt.2 hq)
   . cases h
theorem zma {hp:Hp}:∀{ks:List Kp},ksLt ks=true->ksLt (mvKs hp ks)=true
 | [],_=>rfl
 | x::l,h=>by
   cases x with
   | own i k sh =>
     simp only[ksLt,wS]at h
     simp only[mvKs,ksLt,wS]
     exact⟨h.1,zma h.2⟩
   | mv q p k =>
     have ih:=zma (hp:=hp) (ks:=l) (by simpa[ksLt]using h)
     simp only[mvKs]
     cases zr8 hp q p with
     | none=>exact ih
     | some j=>simpa[keyL,ksLt]using ih
   | slot i=>simpa[mvKs,ksLt]using zma (hp:=hp) (ks:=l) (by simpa[ksLt]using h)
   | key i=>simpa[mvKs,ksLt]using zma (hp:=hp) (ks:=l) (by simpa[ksLt]using h)
theorem zzj (k q j:Nat):sw k q (sw k q j)=j:=by
  unfold sw;repeat' split
  all_goals omega
theorem z8v {k q i j:Nat}(h:sw k q i=sw k q j):i=j:=by rw[<-zzj k q i,h,zzj]
theorem zoy {k q i:Nat}:∀(fr:Fr),Fr.get (rnFr k q fr) i=rA (sw k q) (Fr.get fr i)
 | []=>rfl
 | .set j v::r=>by
   simp only[rnFr,Fr.get];split
   . rfl
   . exact zoy r
 | .clr a b::r=>by
   simp only[rnFr,Fr.get];split
   . rfl
   . exact zoy r
theorem zox {k q:Nat}:∀(hp:Hp) (j:Nat),Hp.get (rnHp k q hp) (sw k q j)=(Hp.get hp j).map (rOB (sw k q))
 | [],j=>rfl
 | (i,o)::r,j=>by
   rw[rnHp,Hp.get_cons,Hp.get_cons]
   by_cases h:i=j
   . subst h;simp
   . rw[if_neg (fun e=>h (z8v e)),if_neg h];exact zox r j
def swGh (G:Gh)(k q:Nat):Gh:={G with reg:=fun j=>G.reg (sw k q j)}
theorem zuv {k q j:Nat}:(swGh G k q).reg (sw k q j)=G.reg j:=by simp[swGh,zzj]
theorem qf3 {hp:Hp}{k q j:Nat}{o:OB}(h:Hp.get (rnHp k q hp) j=some o):∃o',Hp.get hp (sw k q j)=some o'/\o=rOB (sw k q) o':=by
 have:=zox (k:=k) (q:=q) hp (sw k q j)
 rw[zzj,h]at this
 cases hg:Hp.get hp (sw k q j)with
 | none=>rw[hg]at this;cases this
 | some o'=>rw[hg]at this;exact⟨o',rfl,by simpa using this⟩
theorem zs3 {hp:Hp}{k q j:Nat}(h:za7 (rnHp k q hp) j):za7 hp (sw k q j):=by
 obtain⟨o,ho,hd⟩:=h
 obtain⟨o',h1,rfl⟩:=qf3 ho
 exact⟨o',h1,zhj hd⟩
theorem qbi {k q j b:Nat}{r:Sh}(h:(swGh G k q).At j b r):G.At (sw k q j) b r:=h
theorem zs5 {hp:Hp}{k q b:Nat}(h:Live (swGh G k q) (rnHp k q hp) b):Live G hp b:=by
 obtain⟨j,r,h2,h1⟩:=h
 exact⟨sw k q j,r,zs3 h2,qbi h1⟩
theorem z8x {hp:Hp}(inv:Inv H G hp)(k q:Nat):Inv H (swGh G k q) (rnHp k q hp) where
 obs j o h:=by
  obtain⟨o',h1,rfl⟩:=qf3 h
  exact ziz (inv.obs _ o' h1) rfl (fun _ h=>h) (fun _ _ h=>h) fun _ _=>zuv
 out j h:=by
  have:=zox (k:=k) (q:=q) hp (sw k q j)
  rw[zzj,h]at this
  exact inv.out _ (by cases hg:Hp.get hp (sw k q j)with
   | none=>rfl
   | some o=>rw[hg]at this;cases this)
 dist j j' b r r' h h' hl hl':=z8v (inv.dist _ _ b r r' (qbi h) (qbi h') (zs3 hl) (zs3 hl'))
 imm b hb:=⟨(inv.imm b hb).1,fun hl=>(inv.imm b hb).2 (zs5 hl)⟩
 lt b hb:=inv.lt b (zs5 hb)
theorem qjm (hst:StOk H G st tmps)(k q:Nat):StOk H (swGh G k q) {fr:=rnFr k q st.fr,hp:=rnHp k q st.hp} tmps/\Move H G st.hp H (swGh G k q) (rnHp k q st.hp) :=
 ⟨⟨z8x hst.inv k q,fun i=>by
   show RepT H _ _ (Fr.get (rnFr k q st.fr) i)
   rw[zoy];exact(hst.fr i).renA (.inr fun _ h=>h) (fun _ _ h=>h) fun _ _=>zuv⟩,
  ⟨z8x hst.inv k q,Nat.le_refl _,fun b hb=>⟨hb,rfl⟩,fun i l h=>h,fun b _ _=>rfl,fun b hb=>.inl (zs5 hb),fun b hb=>.inl hb⟩⟩
theorem zln {hp0:Hp}:∀{ks:List Kp} {G:Gh} {st st1:St},StOk H G st tmps->rnMv hp0 ks st=some st1 ->
  ∃G2,StOk H G2 st1 tmps/\Move H G st.hp H G2 st1.hp/\∀q,SHK<=q->G2.reg q=G.reg q
 | [],G,st,st1,hst,h=>by
   simp only[rnMv,wO]at h
   subst h
   exact⟨G,hst,Move.refl hst.inv,fun _ _=>rfl⟩
 | x::l,G,st,st1,hst,h=>by
   cases x with
   | mv q p k =>
     simp only[rnMv,wP]at h
     obtain⟨st2,h1,h2⟩:=h
     have key:∃G2,StOk H G2 st2 tmps/\Move H G st.hp H G2 st2.hp/\∀q,SHK<=q->G2.reg q=G.reg q:=by
      cases hc:zr8 hp0 q p with
      | none=>rw[hc]at h1;simp only[rn1,wO]at h1;subst h1;exact⟨G,hst,Move.refl hst.inv,fun _ _=>rfl⟩
      | some j =>
        rw[hc]at h1
        simp only[rn1]at h1
        split at h1
        . cases h1;exact⟨G,hst,Move.refl hst.inv,fun _ _=>rfl⟩
        . split at h1
          . rename_i hlt
            cases h1
            obtain⟨a1,a2⟩:=qjm hst j k
            refine⟨_,a1,a2,fun i hi=> ?_⟩
            show G.reg (sw j k i)=G.reg i
            rw[sw,if_neg (by omega),if_neg (by omega)]
          . cases h1
     obtain⟨G2,a1,a2,a3⟩:=key
     obtain⟨G3,b1,b2,b3⟩:=zln a1 h2
     exact⟨G3,b1,a2.trans b2,fun i hi=>(b3 i hi).trans (a3 i hi)⟩
   | slot i=>exact zln hst (by simpa[rnMv]using h)
   | key i=>exact zln hst (by simpa[rnMv]using h)
   | own i j sh=>exact zln hst (by simpa[rnMv]using h)
theorem zwd {ks:List Kp}(hst:StOk H G st tmps)(h:zc2 ks st=some st1) :
  ∃G2,StOk H G2 st1 tmps/\Move H G st.hp H G2 st1.hp/\(ksLt ks=true->∀q,SHK<=q->∀r,G2.reg q=some r->G.reg q=some r):=by
 unfold zc2 at h
 rw[wP]at h
 obtain⟨st2,h1,h2⟩:=h
 obtain⟨a1,a2⟩:=z3x hst h1
 obtain⟨G3,b1,b2,b3⟩:=zln a1 h2
 exact⟨G3,b1,a2.trans b2,fun hk q hq r hr=>zt9 (zma hk) hq ((b3 q hq).symm.trans hr)⟩
end Go.Ev
