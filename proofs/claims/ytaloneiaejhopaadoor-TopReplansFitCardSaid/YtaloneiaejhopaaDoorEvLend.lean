/-
  Values that are lent, moved, and renamed. No condition.
-/
import Derived.Test.YtaloneiaejhopaaDoorEvReg4
set_option linter.all false
open List renaming mem_singleton->wB,getElem_mem->wC,mem_cons->wD,getElem?_eq_getElem->wE,getElem?_append_right->wF,map_append->wG,nodup_append->wH,append_assoc->wJ,eq_nil_of_length_eq_zero->wK,nodup_cons->wL,length_nil->wM,getElem?_append_left->wN,all_cons->wO,take_append_drop->wP,singleton_append->wQ,length_append->wR,length_take->wS,all_eq_true->wT,nil_append->wU,mem_append->wV,append_nil->wW
open Option renaming bind_eq_some_iff->wX,some.injEq->wY,ite_none_right_eq_some->wZ,map_eq_some_iff->w0,getD_some->w1
open Bool renaming and_eq_true->w2,true_and->w3
open Nat renaming le_refl->w4
open Prod renaming mk.injEq->w5
namespace Go.Ev
open Go
variable {H H':Heap} {G G':Gh}
def Gh.over (G G':Gh):Gh:={imm:=G'.imm,yl:=G'.yl,reg:=G.reg}
theorem zuj (himm:∀b,G.imm b->G'.imm b/\H'[b]? =H[b]?)(hyl:∀i l,G.yl i=some l->G'.yl i=some l):Le H G H' (G.over G'):=⟨himm,ze1 fun _ _ h=>h,hyl⟩
theorem RepS.move {v:Value}{x:AV}(h:RepS H G v x)(himm:∀b,G.imm b->G'.imm b/\H'[b]? =H[b]?)(hyl:∀i l,G.yl i=some l->G'.yl i=some l)
  (hk:∀k∈x.refs,G'.reg k=G.reg k):RepS H' G' v x:=(h.mono (zuj himm hyl)).cut (fun _ h=>h) (fun _ _ h=>h) hk
theorem RepV.move {v:Value}{x:AV}(h:RepV H G v x)(himm:∀b,G.imm b->G'.imm b/\H'[b]? =H[b]?)(hyl:∀i l,G.yl i=some l->G'.yl i=some l)
  (hk:∀k∈x.refs,G'.reg k=G.reg k):RepV H' G' v x:=(h.mono (zuj himm hyl)).cut (fun _ h=>h) (fun _ _ h=>h) hk
theorem RepT.move {v:Value}{x:AV}(h:RepT H G v x)(himm:∀b,G.imm b->G'.imm b/\H'[b]? =H[b]?)(hyl:∀i l,G.yl i=some l->G'.yl i=some l)
  (hk:∀k∈x.refs,G'.reg k=G.reg k):RepT H' G' v x:=(h.mono (zuj himm hyl)).cut (fun _ h=>h) (fun _ _ h=>h) hk
theorem RepC.moveP {c:Array Value}{off:Nat}{x:AV}(h:RepC H G c off x.flat)(hw:x.wf)(hp:x.plain=true)(himm:∀b,G.imm b->G'.imm b/\H'[b]? =H[b]?)(hyl:∀i l,G.yl i=some l->G'.yl i=some l) :
  RepC H' G' c off x.flat:=fun j hj =>
 let ⟨v,hv,hr⟩:=h j hj
 ⟨v,hv,hr.move himm hyl fun k hk=>by rw[zeu x hp hw _ (wC hj)]at hk;cases hk⟩
theorem GlOk.move {gl:Gl}(h:GlOk H G gl)(himm:∀b,G.imm b->G'.imm b/\H'[b]? =H[b]?)(hyl:∀i l,G.yl i=some l->G'.yl i=some l):GlOk H' G' gl:=⟨fun i sh a hi=>by
 obtain⟨h1,h2,h3,h4,c,e,fz,h5,h6⟩:=h.tab i sh a hi
 exact⟨(himm i h1).1,h2,h3,h4,c,e,fz,(himm i h1).2.trans h5,h6.moveP h4 h3 himm hyl⟩,fun i r hi=>hyl _ _ (h.ri i r hi)⟩
theorem GlOk.moved {gl:Gl}{hp hp':Hp}(h:GlOk H G gl)(m:Move H G hp H' G' hp'):GlOk H' G' gl:=h.move m.imm m.yl
theorem Move.refl {hp:Hp}(h:Inv H G hp):Move H G hp H G hp:=(Step.refl h).move
structure LendOk (H:Heap)(G G':Gh)(a x:AV):Prop where
 wf:x.wf
 agg:x.isAgg=a.isAgg
 known:a.known=true->x.known=true
 scalar:a.scalar=true->x.scalar=true
 sh:∀sh,zap sh a=true->zap sh x=true
 rep:∀vs,RepL H G vs a.flat->RepL H G' vs x.flat
theorem zdi {v:Value}{a:AV}(h:a.scalar=true):RepL H G [v] a.flat↔RepS H G v a:=by
 rw[AV.flat_scalar h]
 constructor
 . intro hl;exact hl.get 0 (by simp) (by simp)
 . intro hs
   refine⟨rfl,fun j h1 h2=> ?_⟩
   have:j=0:=by simp at h1;omega
   subst this;exact hs
theorem zia {vs:List Value}{a:AV}(h:a.scalar=true)(hl:RepL H G vs a.flat):∃v,vs=[v]/\RepS H G v a:=by
 have hlen:=hl.len
 rw[AV.flat_scalar h]at hlen
 match vs,hlen with
 | [v],_=>exact⟨v,rfl,(zdi h).1 hl⟩
theorem zx7 {vs:List Value}{l m:List AV}(h:RepL H G vs (l++m)):∃us ws,vs=us++ws/\RepL H G us l/\RepL H G ws m:=by
 have hlen:=h.len
 rw[wR]at hlen
 refine⟨vs.take l.length,vs.drop l.length,(wP _ _).symm,⟨by rw[wS];omega,fun j h1 h2=> ?_⟩,⟨by rw[List.length_drop];omega,fun j h1 h2=> ?_⟩⟩
 . have:=h.get j (by omega) (by simp;omega)
   rw[List.getElem_append_left h2]at this
   rw[List.getElem_take];exact this
 . have:=h.get (l.length+j) (by omega) (by simp;omega)
   rw[List.getElem_append_right (by omega)]at this
   rw[List.getElem_drop]
   simpa using this
theorem z6t {vs:List Value}:RepL H G vs []↔vs=[]:=by
 constructor
 . intro h;exact wK h.len
 . rintro rfl;exact⟨rfl,fun j h=>by simp at h⟩
theorem zqc {f:AV->Option AV}:∀{l l':List AV},mapO f l=some l'->(∀a∈l,∀x,f a=some x->LendOk H G G' a x)->AV.wfs l'/\l'.length=l.length /\
  (∀fs,za5 fs l=true->za5 fs l'=true)/\(∀e,l.all (zap e)=true->l'.all (zap e)=true)/\(∀vs,RepL H G vs (AV.flats l)->RepL H G' vs (AV.flats l')) /\
  (AV.scalars l=true->AV.scalars l'=true)/\∀i (h:i<l.length) (h':i<l'.length),LendOk H G G' l[i] l'[i]
 | [],l',h,_=>by
   simp only[mapO,wY]at h;subst h
   refine⟨trivial,rfl,fun fs h=>h,fun _ h=>h,fun vs h=> ?_,fun h=>h,fun i h=>by simp at h⟩
   rw[AV.flats,z6t]at h ⊢;exact h
 | a::l,l',h,hf=>by
   simp only[mapO,wX,w0]at h
   obtain⟨b,hb,r,hr,rfl⟩:=h
   have h1:=hf a (by simp) b hb
   obtain⟨g1,g2,g3,g4,g5,g6,g7⟩:=zqc hr fun x hx=>hf x (by simp[hx])
   refine⟨⟨h1.wf,g1⟩,by simp[g2],fun fs h=> ?_,fun e h=> ?_,fun vs h=> ?_,fun h=> ?_,fun i hi hi'=> ?_⟩
   . cases fs with
     | nil=>simp[za5]at h
     | cons s fs =>
       simp only[za5,w2]at h ⊢
       exact⟨h1.sh s h.1,g3 fs h.2⟩
   . simp only[wO,w2]at h ⊢
     exact⟨h1.sh e h.1,g4 e h.2⟩
   . rw[AV.flats]at h ⊢
     obtain⟨us,ws,rfl,k1,k2⟩:=zx7 h
     exact zdx (h1.rep us k1) (g5 ws k2)
   . simp only[AV.scalars,w2]at h ⊢
     exact⟨h1.scalar h.1,g6 h.2⟩
   . cases i with
     | zero=>exact h1
     | succ i=>exact g7 i (by simpa using hi) (by simpa using hi')
theorem zir :∀{l:List AV},AV.wfs l->AV.plains l=true->AV.wfp l
 | [],_,_=>trivial
 | a::l,h,hp=>by
   simp only[AV.plains,w2]at hp
   exact⟨hp.1,h.1,zir h.2 hp.2⟩
theorem qav {l:List AV}(h:(AV.aggR l).wf):AV.wfs l:=by simpa[AV.wf]using h
theorem qdd {hp:Hp}(inv:Inv H G hp)(himm:∀b,G.imm b->G'.imm b)(hlive:∀b,Live G hp b->G'.imm b)(hyl:∀i l,G.yl i=some l->G'.yl i=some l) :
  ∀(n:Nat) (a x:AV),zay hp n a=some x->a.wf->LendOk H G G' a x:=by
 have plain:∀(a:AV),a.plain=true->a.wf->LendOk H G G' a a:=fun a hp hw =>
  ⟨hw,rfl,id,id,fun _=>id,fun vs h=>⟨h.len,fun j h1 h2=>(h.get j h1 h2).cut himm hyl fun k hk=>by rw[zeu a hp hw _ (wC h2)]at hk;cases hk⟩⟩
 intro n
 induction n with
 | zero =>
   intro a x h hw
   simp only[zay,wZ,wY]at h
   obtain⟨hp,rfl⟩:=h
   exact plain a hp hw
 | succ n ih =>
   intro a x h hw
   simp only[zay]at h
   split at h
   . rename_i hpl
     cases h;exact plain a hpl hw
   . split at h
     . rename_i k p off len _
       simp only[w0]at h
       obtain⟨⟨sh,l⟩,hc,rfl⟩:=h
       refine⟨trivial,rfl,fun _=>rfl,fun _=>rfl,fun s hs=> ?_,fun vs hvs=> ?_⟩
       . cases s with
         | sc=>rfl
         | st fs=>simp[zap,AV.isAgg]at hs
         | ar n e=>simp[zap,AV.isAgg]at hs
       . obtain⟨v,rfl,hv⟩:=zia rfl hvs
         refine(zdi rfl).2 ?_
         obtain⟨b,cap,hev,hels,hor⟩:=zil inv hv hc
         have hcap:l.length<=cap:=by
          rcases zbn hv with ⟨a0,_,_,hl,he,_⟩|⟨b1,root,m,e,o,x1,hr,hs,ho,hle,he,hx⟩
          . rw[hev]at he;injection he with _ e2 e3;omega
          . rw[hev]at he;injection he with _ e2 e3;omega
         subst hev
         refine zli hcap (fun h=>by cases h) hels ?_
         rcases hor with h|⟨k1,off1,c,e,fz,h1,h2,h3⟩
         . exact .inl h
         . by_cases h0:l=[]
           . exact .inl h0
           . refine .inr ⟨k1,off1,c,e,fz,h1,?_,h2,fun j hj=> ?_⟩
             . rcases zbn hv with ⟨a0,_,_,hl,he,_⟩|⟨b1,root,m,e,o,x1,hr,hs,ho,hle,he,hx⟩
               . injection he with _ he _
                 exact absurd (wK he) h0
               . injection he with he1 _ _
                 rw[h1]at he1
                 injection he1 with he1
                 injection he1 with he1 _ _
                 subst he1
                 refine hlive k1 ⟨k,root,?_,.of hr⟩
                 simp only[za6]at hc
                 split at hc
                 . exact⟨_,by assumption,by simp⟩
                 . exact⟨_,by assumption,by simp⟩
                 . cases hc
             . obtain⟨w,hw1,hw2⟩:=h3 j hj
               exact⟨w,hw1,hw2.cut himm hyl fun q hq=>by
                rw[zca l ((AV.wfp_iff l).2 fun y hy=>(hels y hy).2) _ (wC hj)]at hq;cases hq⟩
     . rename_i k p _
       split at h
       . rename_i sh b hk
         split at h
         . rename_i s x0 hs hn
           simp only[wX]at h
           obtain⟨y,hy,h⟩:=h
           split at h
           . rename_i hpy
             cases h
             refine⟨trivial,rfl,fun _=>rfl,fun _=>rfl,fun s hs=> ?_,fun vs hvs=> ?_⟩
             . cases s with
               | sc=>rfl
               | st fs=>simp[zap,AV.isAgg]at hs
               | ar n e=>simp[zap,AV.isAgg]at hs
             . obtain⟨v,rfl,hv⟩:=zia rfl hvs
               refine(zdi rfl).2 ?_
               obtain⟨b1,root,off,rfl,hr,ho⟩:=zhn hv
               obtain⟨rfl,hsx,hwx,_,c,e,fz,hb,hf,hsz,hrc⟩:=zi3 inv hk hr ho hs hn
               have hl:=ih x0 y hy hwx
               refine zm5 (hlive b1 ⟨k,root,⟨_,hk,by simp⟩,.of hr⟩) hb ?_ (hl.sh s hsx) hpy hl.wf
               obtain⟨val,hv1,hv2⟩:=zgf hrc
               have hL:RepL H G ((List.range x0.flat.length).map val) x0.flat:=⟨by simp,fun j h1 h2=>by simpa using hv2 j h2⟩
               have hL':=hl.rep _ hL
               have hlen:=hL'.len
               simp only[List.length_map,List.length_range]at hlen
               intro j hj
               refine⟨val j,hv1 j (by omega),?_⟩
               have:=hL'.get j (by simp;omega) hj
               simpa using this
           . cases h
         . cases h
       . cases h
     . rename_i l _
       simp only[wX]at h
       obtain⟨l',hl',h⟩:=h
       split at h
       . rename_i hpl
         cases h
         have hws:=qav hw
         rw[AV.wfs_iff]at hws
         obtain⟨g1,g2,g3,g4,g5,_,_⟩:=zqc hl' fun a ha x hx=>ih a x hx (hws a ha)
         refine⟨?_,rfl,fun _=>rfl,fun h=>by simp[AV.scalar]at h,fun s hs=> ?_,fun vs hvs=> ?_⟩
         . rw[AV.wf];exact zir g1 hpl
         . cases s with
           | sc=>simp[zap,AV.scalar]at hs
           | st fs=>simp only[zap,AV.isAgg,AV.kids,w3]at hs ⊢;exact g3 fs hs
           | ar n e=>simp only[zap,AV.isAgg,AV.kids,w3,w2,beq_iff_eq]at hs ⊢;exact⟨by omega,g4 e hs.2⟩
         . simp only[AV.flat]at hvs ⊢;exact g5 vs hvs
       . cases h
     . rename_i f l _
       simp only[w0]at h
       obtain⟨l',hl',rfl⟩:=h
       refine⟨trivial,rfl,fun _=>rfl,fun _=>rfl,fun s hs=> ?_,fun vs hvs=> ?_⟩
       . cases s with
         | sc=>rfl
         | st fs=>simp[zap,AV.isAgg]at hs
         | ar n e=>simp[zap,AV.isAgg]at hs
       . obtain⟨v,rfl,hv⟩:=zia rfl hvs
         refine(zdi rfl).2 ?_
         cases hv with
         | fn _ _ _ us he hn hsc val hval hr =>
           have hws:∀a∈l,a.wf:=fun a ha=>AV.wf_scalar (by
            have:∀(l:List AV),AV.scalars l=true->∀a∈l,a.scalar=true:=by
             intro l
             induction l with
             | nil=>intro _ a h;cases h
             | cons b l ih =>
               intro h a ha
               simp only[AV.scalars,w2]at h
               rcases wD.1 ha with rfl|ha
               . exact h.1
               . exact ih h.2 a ha
            exact this l hsc a ha)
           obtain⟨g1,g2,_,_,_,g6,g7⟩:=zqc hl' fun a ha x hx=>ih a x hx (hws a ha)
           refine .fn _ f l' us he (by omega) (g6 hsc) val (fun i hi=>hval i (by omega)) fun i hi=> ?_
           have hi':i<l.length:=by omega
           have hk:=g7 i hi' hi
           have hsci:l[i].scalar=true:=by
            have:∀(l:List AV),AV.scalars l=true->∀a∈l,a.scalar=true:=by
             intro l
             induction l with
             | nil=>intro _ a h;cases h
             | cons b l ih =>
               intro h a ha
               simp only[AV.scalars,w2]at h
               rcases wD.1 ha with rfl|ha
               . exact h.1
               . exact ih h.2 a ha
            exact this l hsc _ (wC hi')
           exact(zdi (hk.scalar hsci)).1 (hk.rep _ ((zdi hsci).2 (hr i hi')))
     . cases h
theorem zma {a x:AV}(h:x.isAgg=a.isAgg)(vs:List Value):ze3 x vs=ze3 a vs:=by unfold ze3;rw[h]
theorem zwf {hp:Hp}(inv:Inv H G hp)(himm:∀b,G.imm b->G'.imm b)(hlive:∀b,Live G hp b->G'.imm b)(hyl:∀i l,G.yl i=some l->G'.yl i=some l)
  {n:Nat} {a x:AV} {v:Value} (h:zay hp n a=some x) (hv:RepV H G v a):RepV H G' v x:=by
 obtain⟨h1,h2,vs,h3,h4⟩:=hv
 have hl:=qdd inv himm hlive hyl n a x h h2
 exact⟨hl.known h1,hl.wf,vs,hl.rep vs h3,by rw[zma hl.agg];exact h4⟩
theorem zn1 {hp:Hp}:∀{n:Nat} {a x:AV},zay hp n a=some x->a.known=true
 | 0,a,x,h=>by
   simp only[zay,wZ]at h
   have:=h.1;revert this;cases a<;>simp[AV.plain,AV.known]
 | n+1,a,x,h=>by
   simp only[zay]at h
   cases a<;>simp_all[AV.known,AV.plain]
def ren (d k:Nat):Nat:=if 20000<=k then d+1000*(k-20000)else k
mutual
theorem z6c (d:Nat):∀(a:AV),a.plain=true->rn d a=a
 | .agg _,_=>rfl
 | .bool _,_=>rfl
 | .int _ _,_=>rfl
 | .str _,_=>rfl
 | .s _,_=>rfl
 | .lst _ _ _,_=>rfl
 | .cp _ _,_=>rfl
 | .unk,h=>by cases h
 | .aggR _,h=>by cases h
 | .tup _,h=>by cases h
 | .sl _ _ _ _,h=>by cases h
 | .ptr _ _,h=>by cases h
 | .arp _ _ _ _,h=>by cases h
 | .fn _ _,h=>by cases h
 | .yld _,h=>by cases h
 | .mp _,h=>by cases h
end
theorem zda (d:Nat):∀(l:List AV),(rns d l).length=l.length
 | []=>rfl
 | a::l=>by simp[rns,zda d l]
theorem zfh (d:Nat):∀(l:List AV),rns d l=l.map (rn d)
 | []=>rfl
 | a::l=>by simp[rns,zfh d l]
mutual
theorem z03 (d:Nat):∀(a:AV),(rn d a).scalar=a.scalar
 | .agg _=>rfl
 | .bool _=>rfl
 | .int _ _=>rfl
 | .str _=>rfl
 | .s _=>rfl
 | .lst _ _ _=>rfl
 | .cp _ _=>rfl
 | .unk=>rfl
 | .aggR _=>rfl
 | .tup _=>rfl
 | .sl _ _ _ _=>rfl
 | .ptr _ _=>rfl
 | .arp _ _ _ _=>rfl
 | .fn _ _=>rfl
 | .yld _=>rfl
 | .mp _=>rfl
end
theorem z6e (d:Nat)(a:AV):(rn d a).isAgg=a.isAgg:=by cases a<;>rfl
theorem z6d (d:Nat)(a:AV):(rn d a).known=a.known:=by cases a<;>rfl
theorem zl1 (d:Nat):∀(l:List AV),AV.scalars (rns d l)=AV.scalars l
 | []=>rfl
 | a::l=>by simp[rns,AV.scalars,z03,zl1 d l]
mutual
theorem qg7 (d:Nat):∀(a:AV),a.wf->(rn d a).wf
 | .agg _,h=>h
 | .bool _,h=>h
 | .int _ _,h=>h
 | .str _,h=>h
 | .s _,h=>h
 | .lst _ _ _,h=>h
 | .cp _ _,h=>h
 | .unk,h=>h
 | .aggR l,h=>by rw[AV.wf]at h;rw[rn,AV.wf];exact z0w d l h
 | .tup l,h=>by rw[AV.wf]at h;rw[rn,AV.wf];exact z0w d l h
 | .sl _ _ _ _,_=>trivial
 | .ptr _ _,_=>trivial
 | .arp _ _ _ _,_=>trivial
 | .fn _ _,_=>trivial
 | .yld _,_=>trivial
 | .mp _,_=>trivial
theorem z0w (d:Nat):∀(l:List AV),AV.wfs l->AV.wfs (rns d l)
 | [],_=>trivial
 | a::l,h=>⟨qg7 d a h.1,z0w d l h.2⟩
end
mutual
theorem zt9 (d:Nat):∀(a:AV),a.wf->(rn d a).flat=rns d a.flat
 | .agg l,h=>by
   rw[AV.wf]at h
   show(AV.agg l).flat=rns d (AV.agg l).flat
   simp only[AV.flat]
   exact zg1 d l h
 | .bool _,_=>rfl
 | .int _ _,_=>rfl
 | .str _,_=>rfl
 | .s _,_=>rfl
 | .lst _ _ _,_=>rfl
 | .cp _ _,_=>rfl
 | .unk,_=>rfl
 | .aggR l,h=>by
   rw[AV.wf]at h
   rw[rn,AV.flat,AV.flat];exact zru d l h
 | .tup _,_=>rfl
 | .sl _ _ _ _,_=>rfl
 | .ptr _ _,_=>rfl
 | .arp _ _ _ _,_=>rfl
 | .fn _ _,_=>rfl
 | .yld _,_=>rfl
 | .mp _,_=>rfl
theorem zru (d:Nat):∀(l:List AV),AV.wfs l->AV.flats (rns d l)=rns d (AV.flats l)
 | [],_=>rfl
 | a::l,h=>by
   rw[rns,AV.flats,AV.flats,zt9 d a h.1,zru d l h.2,zfh,zfh,zfh,wG]
theorem zg1 (d:Nat):∀(l:List AV),AV.wfp l->AV.flats l=rns d (AV.flats l)
 | [],_=>rfl
 | a::l,h=>by
   have h1:a.flat=rns d a.flat:=by rw[<-zt9 d a h.2.1,z6c d a h.1]
   rw[AV.flats,zfh,wG,<-zfh,<-zfh,<-h1,<-zg1 d l h.2.2]
end
theorem RepS.rename {v:Value}{x:AV}{d:Nat}(h:RepS H G v x)(himm:zdl x=false->∀b,G.imm b->G'.imm b)(hyl:∀i l,G.yl i=some l->G'.yl i=some l) :
  (∀k∈x.refs,G'.reg (ren d k)=G.reg k)->RepS H G' v (rn d x):=by
 induction h with
 | bool b=>exact fun _=>.bool b
 | int k n=>exact fun _=>.int k n
 | str l=>exact fun _=>.str l
 | s v h=>exact fun _=>.s v h
 | ptr k p b root off hr ho=>exact fun hk=>.ptr _ p b root off ((hk k (by simp[AV.refs])).trans hr) ho
 | arp k p off n b root m e o hr hs ho hle=>exact fun hk=>.arp _ p off n b root m e o ((hk k (by simp[AV.refs])).trans hr) hs ho hle
 | sl k p off len b root m e o hr hs ho hle=>exact fun hk=>.sl _ p off len b root m e o ((hk k (by simp[AV.refs])).trans hr) hs ho hle
 | slZ k p off b x root m e hr hs ho=>exact fun hk=>.slZ _ p off b x root m e ((hk k (by simp[AV.refs])).trans hr) hs ho
 | slNil k a hr=>exact fun hk=>.slNil _ a ((hk k (by simp[AV.refs])).trans hr)
 | lstE full sh a cap h=>exact fun _=>.lstE full sh a cap h
 | lst full sh l b off len cap c e fz hi hb hl hc hf hsh val hv hr ih =>
   intro _
   by_cases h0:l=[]
   . subst h0
     simp only[wM]at hl
     subst hl
     exact .lstE full sh _ cap fun h=>hf h
   . have himm':=himm (by unfold zdl;simpa using h0)
     exact .lst full sh l b off len cap c e fz (himm' _ hi) hb hl hc hf hsh val hv fun j hj=>(hr j hj).cut himm' hyl fun k hk=>by
      rw[zca l ((AV.wfp_iff l).2 fun x hx=>(hsh x hx).2) _ (wC hj)]at hk;cases hk
 | cp sh a b off c e fz hi hb hsh val hv hr ih =>
   intro _
   have himm':=himm rfl
   exact .cp sh a b off c e fz (himm' _ hi) hb hsh val hv fun j hj=>(hr j hj).cut himm' hyl fun k hk=>by rw[zeu a hsh.2.1 hsh.2.2 _ (wC hj)]at hk;cases hk
 | fn v f caps vs he hn hsc val hv hr ih =>
   intro hk
   have himm':=himm rfl
   refine .fn v f (rns d caps) vs he (by rw[zda];exact hn) (by rw[zl1];exact hsc) val (fun i hi=>hv i (by rw[zda]at hi;exact hi)) fun i hi=> ?_
   have hi':i<caps.length:=by rw[zda]at hi;exact hi
   have:(rns d caps)[i]=rn d caps[i]:=by simp[zfh]
   rw[this]
   exact ih i hi' (fun _=>himm') fun k h=>hk k (by rw[AV.refs];exact zbc (wC hi') h)
 | yld k b hr=>exact fun hk=>.yld _ b ((hk k (by simp[AV.refs])).trans hr)
 | mp k b hr=>exact fun hk=>.mp _ b ((hk k (by simp[AV.refs])).trans hr)
theorem zj6 :∀{l:List AV},zdk l=true->∀a∈l,zdl a=true
 | [],_,_,h=>by cases h
 | b::l,h,a,ha=>by
   simp only[zdk,w2]at h
   rcases wD.1 ha with rfl|ha
   . exact h.1
   . exact zj6 h.2 a ha
mutual
theorem zj7 :∀(a:AV),zdl a=true->∀y∈a.flat,zdl y=true
 | .agg l,h,y,hy=>by rw[AV.flat]at hy;rw[zdl]at h;exact zfc l h y hy
 | .aggR l,h,y,hy=>by rw[AV.flat]at hy;rw[zdl]at h;exact zfc l h y hy
 | .bool _,h,y,hy=>by simp only[AV.flat,wB]at hy;subst hy;exact h
 | .int _ _,h,y,hy=>by simp only[AV.flat,wB]at hy;subst hy;exact h
 | .str _,h,y,hy=>by simp only[AV.flat,wB]at hy;subst hy;exact h
 | .s _,h,y,hy=>by simp only[AV.flat,wB]at hy;subst hy;exact h
 | .lst _ _ _,h,y,hy=>by simp only[AV.flat,wB]at hy;subst hy;exact h
 | .cp _ _,h,y,hy=>by simp only[AV.flat,wB]at hy;subst hy;exact h
 | .unk,h,y,hy=>by simp only[AV.flat,wB]at hy;subst hy;exact h
 | .tup _,h,y,hy=>by simp only[AV.flat,wB]at hy;subst hy;exact h
 | .sl _ _ _ _,h,y,hy=>by simp only[AV.flat,wB]at hy;subst hy;exact h
 | .ptr _ _,h,y,hy=>by simp only[AV.flat,wB]at hy;subst hy;exact h
 | .arp _ _ _ _,h,y,hy=>by simp only[AV.flat,wB]at hy;subst hy;exact h
 | .fn _ _,h,y,hy=>by simp only[AV.flat,wB]at hy;subst hy;exact h
 | .yld _,h,y,hy=>by simp only[AV.flat,wB]at hy;subst hy;exact h
 | .mp _,h,y,hy=>by simp only[AV.flat,wB]at hy;subst hy;exact h
theorem zfc :∀(l:List AV),zdk l=true->∀y∈AV.flats l,zdl y=true
 | [],_,y,hy=>by simp[AV.flats]at hy
 | a::l,h,y,hy=>by
   simp only[zdk,w2]at h
   rw[AV.flats,wV]at hy
   rcases hy with hy|hy
   . exact zj7 a h.1 y hy
   . exact zfc l h.2 y hy
end
theorem RepV.rename {v:Value}{x:AV}{d:Nat}(h:RepV H G v x)(himm:zdl x=true\/∀b,G.imm b->G'.imm b)(hyl:∀i l,G.yl i=some l->G'.yl i=some l)
  (hk:∀k∈x.refs,G'.reg (ren d k)=G.reg k):RepV H G' v (rn d x):=by
 obtain⟨h1,h2,vs,h3,h4⟩:=h
 refine⟨by rw[z6d];exact h1,qg7 d x h2,vs,?_,by rw[zma (z6e d x)];exact h4⟩
 rw[zt9 d x h2]
 refine⟨by rw[zda];exact h3.len,fun j a b=> ?_⟩
 have b':j<x.flat.length:=by rw[zda]at b;exact b
 have e:(rns d x.flat)[j]=rn d x.flat[j]:=by simp[zfh]
 rw[e]
 refine(h3.get j a b').rename (fun hni=> ?_) hyl fun k h=>hk k (zf3 x h2 _ (wC b') k h)
 rcases himm with h|h
 . rw[zj7 x h _ (wC b')]at hni;cases hni
 . exact h
theorem RepT.rename {v:Value}{x:AV}{d:Nat}(h:RepT H G v x)(himm:zdl x=true\/∀b,G.imm b->G'.imm b)(hyl:∀i l,G.yl i=some l->G'.yl i=some l)
  (hk:∀k∈x.refs,G'.reg (ren d k)=G.reg k):RepT H G' v (rn d x):=by
 cases x with
 | unk=>trivial
 | tup l =>
   obtain⟨vs,hv,hs,hr⟩:=h
   refine⟨vs,hv,by rw[zda];exact hs,fun i a b=> ?_⟩
   have b':i<l.length:=by rw[zda]at b;exact b
   have e:(rns d l)[i]=rn d l[i]:=by simp[zfh]
   rw[e]
   refine(hr i a b').rename (himm.imp (fun h=> ?_) id) hyl fun k h=>hk k (by rw[AV.refs];exact zbc (wC b') h)
   rw[zdl]at h;exact zj6 h _ (wC b')
 | _=>exact RepV.rename h himm hyl hk
end Go.Ev
namespace Go.Ev
open Go
variable {H H':Heap} {G G':Gh}
mutual
theorem z6w (ρ:Nat->Nat):∀(a:AV),a.plain=true->rA ρ a=a
 | .agg _,_=>rfl
 | .bool _,_=>rfl
 | .int _ _,_=>rfl
 | .str _,_=>rfl
 | .s _,_=>rfl
 | .lst _ _ _,_=>rfl
 | .cp _ _,_=>rfl
 | .unk,h=>by cases h
 | .aggR _,h=>by cases h
 | .tup _,h=>by cases h
 | .sl _ _ _ _,h=>by cases h
 | .ptr _ _,h=>by cases h
 | .arp _ _ _ _,h=>by cases h
 | .fn _ _,h=>by cases h
 | .yld _,h=>by cases h
 | .mp _,h=>by cases h
end
theorem za3 (ρ:Nat->Nat):∀(l:List AV),(rAs ρ l).length=l.length
 | []=>rfl
 | a::l=>by simp[rAs,za3 ρ l]
theorem zce (ρ:Nat->Nat):∀(l:List AV),rAs ρ l=l.map (rA ρ)
 | []=>rfl
 | a::l=>by simp[rAs,zce ρ l]
mutual
theorem zr3 (ρ:Nat->Nat):∀(a:AV),(rA ρ a).scalar=a.scalar
 | .agg _=>rfl
 | .bool _=>rfl
 | .int _ _=>rfl
 | .str _=>rfl
 | .s _=>rfl
 | .lst _ _ _=>rfl
 | .cp _ _=>rfl
 | .unk=>rfl
 | .aggR _=>rfl
 | .tup _=>rfl
 | .sl _ _ _ _=>rfl
 | .ptr _ _=>rfl
 | .arp _ _ _ _=>rfl
 | .fn _ _=>rfl
 | .yld _=>rfl
 | .mp _=>rfl
end
theorem zpv (ρ:Nat->Nat)(a:AV):(rA ρ a).isAgg=a.isAgg:=by cases a<;>rfl
theorem z6x (ρ:Nat->Nat)(a:AV):(rA ρ a).known=a.known:=by cases a<;>rfl
theorem zl7 (ρ:Nat->Nat):∀(l:List AV),AV.scalars (rAs ρ l)=AV.scalars l
 | []=>rfl
 | a::l=>by simp[rAs,AV.scalars,zr3,zl7 ρ l]
mutual
theorem qcl (ρ:Nat->Nat):∀(a:AV),a.wf->(rA ρ a).wf
 | .agg _,h=>h
 | .bool _,h=>h
 | .int _ _,h=>h
 | .str _,h=>h
 | .s _,h=>h
 | .lst _ _ _,h=>h
 | .cp _ _,h=>h
 | .unk,h=>h
 | .aggR l,h=>by rw[AV.wf]at h;rw[rA,AV.wf];exact z1b ρ l h
 | .tup l,h=>by rw[AV.wf]at h;rw[rA,AV.wf];exact z1b ρ l h
 | .sl _ _ _ _,_=>trivial
 | .ptr _ _,_=>trivial
 | .arp _ _ _ _,_=>trivial
 | .fn _ _,_=>trivial
 | .yld _,_=>trivial
 | .mp _,_=>trivial
theorem z1b (ρ:Nat->Nat):∀(l:List AV),AV.wfs l->AV.wfs (rAs ρ l)
 | [],_=>trivial
 | a::l,h=>⟨qcl ρ a h.1,z1b ρ l h.2⟩
end
mutual
theorem zpx (ρ:Nat->Nat):∀(a:AV),a.wf->(rA ρ a).flat=rAs ρ a.flat
 | .agg l,h=>by
   rw[AV.wf]at h
   show(AV.agg l).flat=rAs ρ (AV.agg l).flat
   simp only[AV.flat]
   exact zg3 ρ l h
 | .bool _,_=>rfl
 | .int _ _,_=>rfl
 | .str _,_=>rfl
 | .s _,_=>rfl
 | .lst _ _ _,_=>rfl
 | .cp _ _,_=>rfl
 | .unk,_=>rfl
 | .aggR l,h=>by
   rw[AV.wf]at h
   rw[rA,AV.flat,AV.flat];exact zr2 ρ l h
 | .tup _,_=>rfl
 | .sl _ _ _ _,_=>rfl
 | .ptr _ _,_=>rfl
 | .arp _ _ _ _,_=>rfl
 | .fn _ _,_=>rfl
 | .yld _,_=>rfl
 | .mp _,_=>rfl
theorem zr2 (ρ:Nat->Nat):∀(l:List AV),AV.wfs l->AV.flats (rAs ρ l)=rAs ρ (AV.flats l)
 | [],_=>rfl
 | a::l,h=>by
   rw[rAs,AV.flats,AV.flats,zpx ρ a h.1,zr2 ρ l h.2,zce,zce,zce,wG]
theorem zg3 (ρ:Nat->Nat):∀(l:List AV),AV.wfp l->AV.flats l=rAs ρ (AV.flats l)
 | [],_=>rfl
 | a::l,h=>by
   have h1:a.flat=rAs ρ a.flat:=by rw[<-zpx ρ a h.2.1,z6w ρ a h.1]
   rw[AV.flats,zce,wG,<-zce,<-zce,<-h1,<-zg3 ρ l h.2.2]
end
theorem RepS.renA {v:Value}{x:AV}{ρ:Nat->Nat}(h:RepS H G v x)(himm:zdl x=false->∀b,G.imm b->G'.imm b)(hyl:∀i l,G.yl i=some l->G'.yl i=some l) :
  (∀k∈x.refs,G'.reg (ρ k)=G.reg k)->RepS H G' v (rA ρ x):=by
 induction h with
 | bool b=>exact fun _=>.bool b
 | int k n=>exact fun _=>.int k n
 | str l=>exact fun _=>.str l
 | s v h=>exact fun _=>.s v h
 | ptr k p b root off hr ho=>exact fun hk=>.ptr _ p b root off ((hk k (by simp[AV.refs])).trans hr) ho
 | arp k p off n b root m e o hr hs ho hle=>exact fun hk=>.arp _ p off n b root m e o ((hk k (by simp[AV.refs])).trans hr) hs ho hle
 | sl k p off len b root m e o hr hs ho hle=>exact fun hk=>.sl _ p off len b root m e o ((hk k (by simp[AV.refs])).trans hr) hs ho hle
 | slZ k p off b x root m e hr hs ho=>exact fun hk=>.slZ _ p off b x root m e ((hk k (by simp[AV.refs])).trans hr) hs ho
 | slNil k a hr=>exact fun hk=>.slNil _ a ((hk k (by simp[AV.refs])).trans hr)
 | lstE full sh a cap h=>exact fun _=>.lstE full sh a cap h
 | lst full sh l b off len cap c e fz hi hb hl hc hf hsh val hv hr ih =>
   intro _
   by_cases h0:l=[]
   . subst h0
     simp only[wM]at hl
     subst hl
     exact .lstE full sh _ cap fun h=>hf h
   . have himm':=himm (by unfold zdl;simpa using h0)
     exact .lst full sh l b off len cap c e fz (himm' _ hi) hb hl hc hf hsh val hv fun j hj=>(hr j hj).cut himm' hyl fun k hk=>by
      rw[zca l ((AV.wfp_iff l).2 fun x hx=>(hsh x hx).2) _ (wC hj)]at hk;cases hk
 | cp sh a b off c e fz hi hb hsh val hv hr ih =>
   intro _
   have himm':=himm rfl
   exact .cp sh a b off c e fz (himm' _ hi) hb hsh val hv fun j hj=>(hr j hj).cut himm' hyl fun k hk=>by rw[zeu a hsh.2.1 hsh.2.2 _ (wC hj)]at hk;cases hk
 | fn v f caps vs he hn hsc val hv hr ih =>
   intro hk
   have himm':=himm rfl
   refine .fn v f (rAs ρ caps) vs he (by rw[za3];exact hn) (by rw[zl7];exact hsc) val (fun i hi=>hv i (by rw[za3]at hi;exact hi)) fun i hi=> ?_
   have hi':i<caps.length:=by rw[za3]at hi;exact hi
   have:(rAs ρ caps)[i]=rA ρ caps[i]:=by simp[zce]
   rw[this]
   exact ih i hi' (fun _=>himm') fun k h=>hk k (by rw[AV.refs];exact zbc (wC hi') h)
 | yld k b hr=>exact fun hk=>.yld _ b ((hk k (by simp[AV.refs])).trans hr)
 | mp k b hr=>exact fun hk=>.mp _ b ((hk k (by simp[AV.refs])).trans hr)
theorem RepV.renA {v:Value}{x:AV}{ρ:Nat->Nat}(h:RepV H G v x)(himm:zdl x=true\/∀b,G.imm b->G'.imm b)(hyl:∀i l,G.yl i=some l->G'.yl i=some l)
  (hk:∀k∈x.refs,G'.reg (ρ k)=G.reg k):RepV H G' v (rA ρ x):=by
 obtain⟨h1,h2,vs,h3,h4⟩:=h
 refine⟨by rw[z6x];exact h1,qcl ρ x h2,vs,?_,by rw[zma (zpv ρ x)];exact h4⟩
 rw[zpx ρ x h2]
 refine⟨by rw[za3];exact h3.len,fun j a b=> ?_⟩
 have b':j<x.flat.length:=by rw[za3]at b;exact b
 have e:(rAs ρ x.flat)[j]=rA ρ x.flat[j]:=by simp[zce]
 rw[e]
 refine(h3.get j a b').renA (fun hni=> ?_) hyl fun k h=>hk k (zf3 x h2 _ (wC b') k h)
 rcases himm with h|h
 . rw[zj7 x h _ (wC b')]at hni;cases hni
 . exact h
theorem RepT.renA {v:Value}{x:AV}{ρ:Nat->Nat}(h:RepT H G v x)(himm:zdl x=true\/∀b,G.imm b->G'.imm b)(hyl:∀i l,G.yl i=some l->G'.yl i=some l)
  (hk:∀k∈x.refs,G'.reg (ρ k)=G.reg k):RepT H G' v (rA ρ x):=by
 cases x with
 | unk=>trivial
 | tup l =>
   obtain⟨vs,hv,hs,hr⟩:=h
   refine⟨vs,hv,by rw[za3];exact hs,fun i a b=> ?_⟩
   have b':i<l.length:=by rw[za3]at b;exact b
   have e:(rAs ρ l)[i]=rA ρ l[i]:=by simp[zce]
   rw[e]
   refine(hr i a b').renA (himm.imp (fun h=> ?_) id) hyl fun k h=>hk k (by rw[AV.refs];exact zbc (wC b') h)
   rw[zdl]at h;exact zj6 h _ (wC b')
 | _=>exact RepV.renA h himm hyl hk
section
variable {H H':Heap} {G G':Gh} {hp:Hp}
mutual
theorem zpw (ρ:Nat->Nat):∀(s:Sh) (a:AV),zap s (rA ρ a)=zap s a
 | .sc,a=>by simp only[zap];exact zr3 ρ a
 | .st fs,a=>by
   simp only[zap,zpv]
   cases a with
   | aggR l=>simp only[rA,AV.kids];rw[zr4 ρ fs l]
   | _=>rfl
 | .ar n e,a=>by
   simp only[zap,zpv]
   cases a with
   | aggR l=>simp only[rA,AV.kids,za3];rw[zr5 ρ e l]
   | _=>rfl
theorem zr4 (ρ:Nat->Nat):∀(fs:List Sh) (l:List AV),za5 fs (rAs ρ l)=za5 fs l
 | [],[]=>rfl
 | s::fs,a::l=>by rw[rAs,za5,za5,zpw ρ s a,zr4 ρ fs l]
 | [],_::_=>rfl
 | _::_,[]=>rfl
theorem zr5 (ρ:Nat->Nat):∀(e:Sh) (l:List AV),(rAs ρ l).all (zap e)=l.all (zap e)
 | _,[]=>rfl
 | e,a::l=>by rw[rAs,wO,wO,zpw ρ e a,zr5 ρ e l]
end
theorem z6u {c:Array Value}{off:Nat}{l:List AV}{ρ:Nat->Nat}(h:RepC H G c off l)(himm:∀b,G.imm b->G'.imm b)(hyl:∀i l,G.yl i=some l->G'.yl i=some l)
  (hk:∀x∈l,∀k∈x.refs,G'.reg (ρ k)=G.reg k):RepC H G' c off (rAs ρ l):=by
 intro j hj
 have hj':j<l.length:=by rw[za3]at hj;exact hj
 obtain⟨v,hv,hr⟩:=h j hj'
 refine⟨v,hv,?_⟩
 have e:(rAs ρ l)[j]=rA ρ l[j]:=by simp[zce]
 rw[e]
 exact hr.renA (fun _=>himm) hyl (hk _ (wC hj'))
theorem zja {k k':Nat}{o:OB}{ρ:Nat->Nat}(h:ObOk H G k o)(hreg:G'.reg k'=G.reg k)(himm:∀b,G.imm b->G'.imm b)(hyl:∀i l,G.yl i=some l->G'.yl i=some l)
  (hk:∀j∈zdd o,G'.reg (ρ j)=G.reg j):ObOk H G' k' (rOB ρ o):=by
 cases o with
 | fix sh a =>
   obtain⟨b,c,e,fz,h1,h2,h3,h4,h5,h6,h7⟩:=h
   refine⟨b,c,e,fz,hreg.trans h1,h2,h3,h4,by rw[zpw];exact h5,qcl ρ a h6,?_⟩
   rw[zpx ρ a h6]
   exact z6u h7 himm hyl fun x hx j hj=>hk j (zf3 a h6 x hx j hj)
 | grow sh els =>
   rcases h with ⟨h1,h2⟩|⟨b,cap,c,e,fz,h1,h2,h3,h4,h5,h6,h7⟩
   . exact .inl ⟨h1,hreg.trans h2⟩
   . refine .inr ⟨b,cap,c,e,fz,hreg.trans h1,h2,h3,h4,h5,h6,fun j hj=> ?_⟩
     obtain⟨v,hv,hr⟩:=h7 j hj
     exact⟨v,hv,hr.cut himm hyl fun q hq=>by rw[zca els ((AV.wfp_iff els).2 fun y hy=>(h6 y hy).2) _ (wC hj)]at hq;cases hq⟩
 | dead=>obtain⟨r,hr⟩:=h;exact⟨r,hreg.trans hr⟩
 | lp rid vals s =>
   obtain⟨b,rc,info,h1,h2,h3,h4,h5⟩:=h
   refine⟨b,rc,info,hreg.trans h1,h2,hyl _ _ h3,h4,by rw[za3];exact h5.len,fun j hj=> ?_⟩
   have hj':j<vals.length:=by rw[za3]at hj;exact hj
   have e:(rAs ρ vals)[j]=rA ρ vals[j]:=by simp[zce]
   rw[e]
   exact(h5.get j hj').renA (.inr himm) hyl fun q hq=>hk q (zbc (wC hj') hq)
 | mp es c=>obtain⟨b,h1,h2,h3⟩:=h;exact⟨b,hreg.trans h1,h2,h3⟩
theorem zho {ρ:Nat->Nat}{o:OB}(h:rOB ρ o≠.dead):o≠.dead:=fun e=>h (by rw[e];rfl)
end
end Go.Ev
namespace Go.Ev
open Go
variable {H :Heap} {G:Gh} {st st1 acc:St} {tmps:Array Value}
theorem zcx :∀{l:List Nat},ze4 l=true↔l.Nodup
 | []=>by simp[ze4]
 | a::l=>by simp[ze4,zcx (l:=l)]
def FromHp (st:St)(ks:List Kp)(k:Nat)(o:OB):Prop :=
 (Kp.key k∈ks/\st.hp.get k=some o) \/
 ∃i sh,Kp.own i k sh∈ks/\((∃k' n els,st.fr.get i= .sl k' [] 0 n/\st.hp.get k'=some (.grow sh els)/\o= .grow sh els)\/((∃sh0,st.fr.get i= .lst true sh0 [])/\o= .grow sh []))
def FromFr (st:St)(ks:List Kp)(i:Nat)(a:AV):Prop :=
 (Kp.slot i∈ks/\a=st.fr.get i) \/
 ∃k sh,Kp.own i k sh∈ks/\((∃k' n els,st.fr.get i= .sl k' [] 0 n/\st.hp.get k'=some (.grow sh els)/\n=els.length/\a= .sl k [] 0 n)\/((∃sh0,st.fr.get i= .lst true sh0 [])/\a= .sl k [] 0 0))
theorem zyn {x:Kp}(h:zka st acc x=some st1) :
  (∀k o,st1.hp.get k=some o->acc.hp.get k=some o\/FromHp st [x] k o)/\(∀i,st1.fr.get i=acc.fr.get i\/FromFr st [x] i (st1.fr.get i)) /\
  (∀k,acc.hp.get k≠none->st1.hp.get k≠none)/\(∀k∈Kp.keys [x]++Kp.owns [x],st1.hp.get k≠none):=by
 cases x with
 | mv q p k=>simp[zka]at h
 | fam q b=>simp[zka]at h
 | frz q p=>simp[zka]at h
 | slot i =>
   simp only[zka,wY]at h
   subst h
   refine⟨fun k o h=>.inl h,fun j=> ?_,fun k h=>h,fun k hk=>by simp[Kp.keys,Kp.owns]at hk⟩
   by_cases hj:i=j
   . subst hj;exact .inr (.inl ⟨by simp,by simp[Fr.get]⟩)
   . left;simp[Fr.get,hj]
 | key k =>
   simp only[zka]at h
   split at h
   . rename_i o ho
     cases h
     refine⟨fun j o' hj=> ?_,fun j=>.inl rfl,fun j hj=> ?_,fun j hj=> ?_⟩
     . rw[Hp.get_cons]at hj
       by_cases hk:k=j
       . subst hk;simp only[if_true,wY]at hj;subst hj;exact .inr (.inl ⟨by simp,ho⟩)
       . simp only[hk,if_false]at hj;exact .inl hj
     . rw[Hp.get_cons];split
       . simp
       . exact hj
     . simp only[Kp.keys,Kp.owns,wW,wB]at hj
       subst hj;simp[Hp.get_cons]
   . cases h
 | own i k sh =>
   simp only[zka]at h
   split at h
   . rename_i k' n hfr
     split at h
     . rename_i sh' els hk'
       rw[wZ,w2,decide_eq_true_eq]at h
       obtain⟨⟨hb,hn⟩,h⟩:=h
       have hb:=Sh.beq_eq hb
       subst hb
       cases h
       refine⟨fun j o' hj=> ?_,fun j=> ?_,fun j hj=> ?_,fun j hj=> ?_⟩
       . rw[Hp.get_cons]at hj
         by_cases hk:k=j
         . subst hk;simp only[if_true,wY]at hj;subst hj
           exact .inr (.inr ⟨i,sh,by simp,.inl ⟨k',n,els,hfr,hk',rfl⟩⟩)
         . simp only[hk,if_false]at hj;exact .inl hj
       . by_cases hij:i=j
         . subst hij;exact .inr (.inr ⟨k,sh,by simp,.inl ⟨k',n,els,hfr,hk',hn,by simp[Fr.get]⟩⟩)
         . left;simp[Fr.get,hij]
       . rw[Hp.get_cons];split
         . simp
         . exact hj
       . simp only[Kp.keys,Kp.owns,wU,wB]at hj
         subst hj;simp[Hp.get_cons]
     . cases h
   . rename_i sh0 hfr
     cases h
     refine⟨fun j o' hj=> ?_,fun j=> ?_,fun j hj=> ?_,fun j hj=> ?_⟩
     . rw[Hp.get_cons]at hj
       by_cases hk:k=j
       . subst hk;simp only[if_true,wY]at hj;subst hj
         exact .inr (.inr ⟨i,sh,by simp,.inr ⟨⟨sh0,hfr⟩,rfl⟩⟩)
       . simp only[hk,if_false]at hj;exact .inl hj
     . by_cases hij:i=j
       . subst hij;exact .inr (.inr ⟨k,sh,by simp,.inr ⟨⟨sh0,hfr⟩,by simp[Fr.get]⟩⟩)
       . left;simp[Fr.get,hij]
     . rw[Hp.get_cons];split
       . simp
       . exact hj
     . simp only[Kp.keys,Kp.owns,wU,wB]at hj
       subst hj;simp[Hp.get_cons]
   . cases h
theorem FromHp.mono {ks ks':List Kp}{k:Nat}{o:OB}(h:FromHp st ks k o)(hs:∀x∈ks,x∈ks'):FromHp st ks' k o:=by
 rcases h with ⟨h1,h2⟩|⟨i,sh,h1,h2⟩
 . exact .inl ⟨hs _ h1,h2⟩
 . exact .inr ⟨i,sh,hs _ h1,h2⟩
theorem FromFr.mono {ks ks':List Kp}{i:Nat}{a:AV}(h:FromFr st ks i a)(hs:∀x∈ks,x∈ks'):FromFr st ks' i a:=by
 rcases h with ⟨h1,h2⟩|⟨k,sh,h1,h2⟩
 . exact .inl ⟨hs _ h1,h2⟩
 . exact .inr ⟨k,sh,hs _ h1,h2⟩
theorem z2j (x:Kp)(l:List Kp)(k:Nat):k∈Kp.keys (x::l)++Kp.owns (x::l)↔k∈Kp.keys [x]++Kp.owns [x]\/k∈Kp.keys l++Kp.owns l:=by
 cases x<;>simp[Kp.keys,Kp.owns,or_assoc,or_left_comm]
theorem zn8 :∀{ks:List Kp} {acc:St},zfy st ks acc=some st1 ->
  (∀k o,st1.hp.get k=some o->acc.hp.get k=some o\/FromHp st ks k o)/\(∀i,st1.fr.get i=acc.fr.get i\/FromFr st ks i (st1.fr.get i)) /\
  (∀k,acc.hp.get k≠none->st1.hp.get k≠none)/\(∀k∈Kp.keys ks++Kp.owns ks,st1.hp.get k≠none)
 | [],acc,h=>by
   simp only[zfy,wY]at h
   subst h
   exact⟨fun k o h=>.inl h,fun i=>.inl rfl,fun k h=>h,fun k hk=>by simp[Kp.keys,Kp.owns]at hk⟩
 | x::l,acc,h=>by
   simp only[zfy,wX]at h
   obtain⟨a2,h1,h2⟩:=h
   obtain⟨p1,p2,p3,p4⟩:=zyn h1
   obtain⟨q1,q2,q3,q4⟩:=zn8 h2
   have hx:∀y∈[x],y∈x::l:=fun y hy=>by simp at hy;simp[hy]
   have hl:∀y∈l,y∈x::l:=fun y hy=>by simp[hy]
   refine⟨fun k o hk=> ?_,fun i=> ?_,fun k hk=>q3 k (p3 k hk),fun k hk=> ?_⟩
   . rcases q1 k o hk with h|h
     . exact(p1 k o h).imp id (·.mono hx)
     . exact .inr (h.mono hl)
   . rcases q2 i with h|h
     . rcases p2 i with h'|h'
       . exact .inl (h.trans h')
       . rw[h];exact .inr (h'.mono hx)
     . exact .inr (h.mono hl)
   . rcases(z2j x l k).1 hk with h|h
     . exact q3 k (p4 k h)
     . exact q4 k h
def ownI :List Kp->Nat->Option Nat
 | [],_=>none
 | .own i k _::l,j=>if k=j then some i else ownI l j
 | _::l,j=>ownI l j
theorem zlh {ks:List Kp}{i k:Nat}{sh:Sh}(h:Kp.own i k sh∈ks):k∈Kp.owns ks:=by
 induction ks with
 | nil=>cases h
 | cons x l ih =>
   rcases wD.1 h with rfl|h'
   . simp[Kp.owns]
   . cases x<;>simp[Kp.owns,ih h']
theorem zp7 {ks:List Kp}{k:Nat}:Kp.key k∈ks↔k∈Kp.keys ks:=by
 induction ks with
 | nil=>simp[Kp.keys]
 | cons x l ih=>cases x<;>simp[Kp.keys,ih]
theorem zv8 {ks:List Kp}(hn:(Kp.owns ks).Nodup){i k:Nat}{sh:Sh}(h:Kp.own i k sh∈ks):ownI ks k=some i:=by
 induction ks with
 | nil=>cases h
 | cons x l ih =>
   rcases wD.1 h with rfl|h'
   . simp[ownI]
   . cases x with
     | own i' k' sh' =>
       simp only[Kp.owns,wL]at hn
       have hne:k'≠k:=fun e=>hn.1 (e▸zlh h')
       simp only[ownI,hne,if_false]
       exact ih hn.2 h'
     | _=>exact ih hn h'
theorem zv9 {ks:List Kp}{i k:Nat}(h:ownI ks k=some i):∃sh,Kp.own i k sh∈ks:=by
 induction ks with
 | nil=>cases h
 | cons x l ih =>
   cases x with
   | own i' k' sh' =>
     simp only[ownI]at h
     split at h
     . rename_i hk;cases h;subst hk;exact⟨sh',by simp⟩
     . obtain⟨sh,h⟩:=ih h;exact⟨sh,by simp[h]⟩
   | _=>obtain⟨sh,h⟩:=ih h;exact⟨sh,by simp[h]⟩
theorem zhu {ks:List Kp}{i k k' n:Nat}{sh:Sh}{p:List Nat}{off:Nat}(h:Kp.own i k sh∈ks)(hf:st.fr.get i= .sl k' p off n):k'∈Kp.ownSrc st ks:=by
 induction ks with
 | nil=>cases h
 | cons x l ih =>
   rcases wD.1 h with rfl|h'
   . simp[Kp.ownSrc,hf]
   . cases x<;>simp[Kp.ownSrc,ih h']
theorem zyg {ks:List Kp}(hn:(Kp.ownSrc st ks).Nodup){i1 i2 k1 k2 k' n1 n2:Nat}{s1 s2:Sh}{p1 p2:List Nat}{o1 o2:Nat}(h1:Kp.own i1 k1 s1∈ks)(h2:Kp.own i2 k2 s2∈ks)
  (f1:st.fr.get i1= .sl k' p1 o1 n1) (f2:st.fr.get i2= .sl k' p2 o2 n2):k1=k2:=by
 induction ks with
 | nil=>cases h1
 | cons x l ih =>
   have hl:(Kp.ownSrc st l).Nodup:=by
    cases x with
    | own i k sh=>simp only[Kp.ownSrc]at hn;exact(wH.1 hn).2.1
    | _=>exact hn
   rcases wD.1 h1 with e1|h1'
   . rcases wD.1 h2 with e2|h2'
     . rw[<-e1]at e2;cases e2;rfl
     . subst e1
       simp only[Kp.ownSrc,f1,wQ,wL]at hn
       exact absurd (zhu h2' f2) hn.1
   . rcases wD.1 h2 with e2|h2'
     . subst e2
       simp only[Kp.ownSrc,f2,wQ,wL]at hn
       exact absurd (zhu h1' f1) hn.1
     . exact ih hl h1' h2'
theorem zpi {ks:List Kp}{i:Nat}(h:Kp.slot i∈ks):∀k∈(st.fr.get i).refs,k∈Kp.slotRefs st ks:=by
 induction ks with
 | nil=>cases h
 | cons x l ih =>
   intro k hk
   rcases wD.1 h with rfl|h'
   . simp[Kp.slotRefs,hk]
   . cases x<;>simp[Kp.slotRefs,ih h' k hk]
theorem zrk {ks:List Kp}{j:Nat}{o:OB}(h:Kp.key j∈ks)(hj:st.hp.get j=some o):∀k∈zdd o,k∈Kp.slotRefs st ks:=by
 induction ks with
 | nil=>cases h
 | cons x l ih =>
   intro k hk
   rcases wD.1 h with rfl|h'
   . simp[Kp.slotRefs,hj,zk9,hk]
   . cases x<;>simp[Kp.slotRefs,ih h' k hk]
open Classical in
noncomputable def zh0 (G:Gh)(st:St)(ks:List Kp)(k:Nat):Option Rg :=
 if k∈Kp.keys ks then G.reg k else
 match ownI ks k with
 | some i=>(match st.fr.get i with| .sl k' _ _ _=>G.reg k'|_=>some .nil)
 | none=>none
open Classical in
noncomputable def zgp (st:St)(ks:List Kp)(k:Nat):Nat :=
 if k∈Kp.keys ks then k else
 match ownI ks k with
 | some i=>(match st.fr.get i with| .sl k' _ _ _=>k'|_=>k)
 | none=>k
noncomputable def zd0 (G:Gh)(st:St)(ks:List Kp):Gh:={G with reg:=zh0 G st ks}
theorem z42 {ks:List Kp}(hst:StOk H G st tmps)(h:zow ks st=some st1):StOk H (zd0 G st ks) st1 tmps/\Move H G st.hp H (zd0 G st ks) st1.hp:=by
 unfold zow at h
 rw[wZ,w2,w2,zcx,zcx,wT]at h
 obtain⟨⟨⟨hn1,hn2⟩,hrefs⟩,h⟩:=h
 obtain⟨q1,q2,_,q4⟩:=zn8 h
 have hn1':=wH.1 hn1
 have hn2':=wH.1 hn2
 have hkey:∀k,k∈Kp.keys ks->(zd0 G st ks).reg k=G.reg k/\zgp st ks k=k:=fun k hk=>by
  simp[zd0,zh0,zgp,hk]
 have hnk:∀{i k sh},Kp.own i k sh∈ks->k∉Kp.keys ks:=fun{i k sh} ho hk=>hn1'.2.2 k hk k (zlh ho) rfl
 have hown:∀{i k k' n sh p off},Kp.own i k sh∈ks->st.fr.get i= .sl k' p off n->(zd0 G st ks).reg k=G.reg k'/\zgp st ks k=k':=fun{i k k' n sh p off} ho hf=>by
  have h1:=hnk ho
  have h2:=zv8 hn1'.2.1 ho
  simp[zd0,zh0,zgp,h1,h2,hf]
 have hnil:∀{i k sh sh0 l},Kp.own i k sh∈ks->st.fr.get i= .lst true sh0 l->(zd0 G st ks).reg k=some .nil:=fun{i k sh sh0 l} ho hf=>by
  have h1:=hnk ho
  have h2:=zv8 hn1'.2.1 ho
  simp[zd0,zh0,h1,h2,hf]
 have hrefs':∀k∈Kp.slotRefs st ks,k∈Kp.keys ks:=fun k hk=>by simpa using hrefs k hk
 have q1':∀k o,st1.hp.get k=some o->FromHp st ks k o:=fun k o hk=>by
  rcases q1 k o hk with h|h
  . simp[Hp.get]at h
  . exact h
 obtain⟨hinv,hlive⟩:=z2v (G':=zd0 G st ks) (hp':=st1.hp) hst.inv (zgp st ks) (fun b=>Iff.rfl) (fun i l h=>h)
  (fun k o hk=>by
    rcases q1' k o hk with ⟨h1,h2⟩|⟨i,sh,ho,⟨k',n,els,hf,hk',rfl⟩|⟨⟨sh0,hf⟩,rfl⟩⟩
    . have hm:=zp7.1 h1
      obtain⟨e1,e2⟩:=hkey k hm
      left
      refine⟨by rw[e2];exact h2,by rw[e1,e2],fun j hj=> ?_⟩
      exact(hkey j (hrefs' j (zrk h1 h2 j hj))).1
    . obtain⟨e1,e2⟩:=hown ho hf
      left
      exact⟨by rw[e2];exact hk',by rw[e1,e2],fun j hj=>by cases hj⟩
    . exact .inr ⟨sh,rfl,hnil ho hf⟩)
  (fun k hk=>by
    have h1:k∉Kp.keys ks:=fun h=>q4 k (List.mem_append_left _ h) hk
    have h2:ownI ks k=none:=by
     cases hi:ownI ks k with
     | none=>rfl
     | some i=>obtain⟨sh,hm⟩:=zv9 hi;exact absurd hk (q4 k (List.mem_append_right _ (zlh hm)))
    simp[zd0,zh0,h1,h2])
  (fun k k' b r r' hk hk' hr hr' he=>by
    have cases':∀k r,za0 st1.hp k->(zd0 G st ks).At k b r->(k∈Kp.keys ks/\zgp st ks k=k)\/∃i sh k2 n p off,Kp.own i k sh∈ks/\st.fr.get i= .sl k2 p off n/\zgp st ks k=k2:=by
     rintro k r ⟨o,ho,_⟩ hr
     rcases q1' k o ho with ⟨h1,h2⟩|⟨i,sh,ho,⟨k2,n,els,hf,hk',_⟩|⟨⟨sh0,hf⟩,_⟩⟩
     . exact .inl ⟨zp7.1 h1,(hkey k (zp7.1 h1)).2⟩
     . exact .inr ⟨i,sh,k2,n,[],0,ho,hf,(hown ho hf).2⟩
     . obtain⟨q,hq,hat⟩:=hr;rw[hnil ho hf]at hq;cases hq;exact hat.elim
    rcases cases' k r hk hr with ⟨m1,e1⟩|⟨i1,s1,a1,n1,p1,o1,ho1,hf1,e1⟩
    . rcases cases' k' r' hk' hr' with ⟨m2,e2⟩|⟨i2,s2,a2,n2,p2,o2,ho2,hf2,e2⟩
      . rw[e1,e2]at he;exact he
      . exfalso
        rw[e1,e2]at he
        subst he
        exact hn2'.2.2 k m1 k (zhu ho2 hf2) rfl
    . rcases cases' k' r' hk' hr' with ⟨m2,e2⟩|⟨i2,s2,a2,n2,p2,o2,ho2,hf2,e2⟩
      . exfalso
        rw[e1,e2]at he
        subst he
        exact hn2'.2.2 _ m2 _ (zhu ho1 hf1) rfl
      . rw[e1,e2]at he
        subst he
        exact zyg hn2'.2.1 ho1 ho2 hf1 hf2)
 refine⟨⟨hinv,fun i=> ?_⟩,⟨hinv,w4 _,fun b hb=>⟨hb,rfl⟩,fun i l h=>h,fun b _ _=>rfl,fun b hb=>.inl (hlive b hb),fun b hb=>.inl hb⟩⟩
 rcases q2 i with h|⟨hm,h⟩|⟨k,sh,ho,⟨k',n,els,hf,hk',hlen,h⟩|⟨⟨sh0,hf⟩,h⟩⟩
 . rw[h];simp only[Fr.get];trivial
 . rw[h]
   exact(hst.fr i).cut (fun b h=>h) (fun i l h=>h) fun k hk=>(hkey k (hrefs' k (zpi hm k hk))).1
 . rw[h]
   have hr:=hst.fr i
   rw[hf,zae rfl]at hr
   rw[zae rfl]
   obtain⟨e1,_⟩:=hown ho hf
   generalize tmps.getD i undef=v at hr ⊢
   cases hr with
   | sl _ _ _ _ b root m e o hr hs ho hle=>exact .sl k [] 0 n b root m e o (e1.trans hr) hs ho hle
   | slZ _ _ _ b x root m e hr hs ho=>exact .slZ k [] 0 b x root m e (e1.trans hr) hs ho
   | slNil _ a hr=>exact .slNil k a (e1.trans hr)
 . rw[h]
   have hr:=hst.fr i
   rw[hf,zae rfl]at hr
   rw[zae rfl]
   have e1:=hnil ho hf
   obtain⟨b,cap,he,_,hc,_,_⟩:=zd2 hr
   have:=hc rfl
   simp only[wM]at this he
   subst this
   rw[he]
   exact .slNil k b e1
theorem zjb :∀{ks:List Kp},ksLt ks=true->∀k∈Kp.owns ks,k<SHK
 | [],_,k,h=>by cases h
 | x::l,hl,k,h=>by
   cases x with
   | own j q sh =>
     simp only[ksLt,w2,decide_eq_true_eq]at hl
     simp only[Kp.owns,wD]at h
     rcases h with rfl|h
     . exact hl.1
     . exact zjb hl.2 k h
   | frz q p =>
     simp only[ksLt,w2,decide_eq_true_eq]at hl
     exact zjb hl.2 k (by simpa[Kp.owns]using h)
   | _=>exact zjb (by simpa[ksLt]using hl) k (by simpa[Kp.owns]using h)
theorem zsc :∀{n i:Nat} {hp:Hp},Kp.owns (bigs hp n i)=[]
 | 0,i,hp=>rfl
 | n+1,i,hp=>by
   rw[bigs];split
   . exact zsc (n:=n) (i:=i+1)
   . rfl
theorem zmd :∀{a b:List Kp},Kp.owns (a++b)=Kp.owns a++Kp.owns b
 | [],b=>rfl
 | x::a,b=>by cases x<;>simp[Kp.owns,zmd (a:=a) (b:=b)]
theorem zvd {ks:List Kp}(hk:ksLt ks=true){q:Nat}(hq:SHK<=q){r:Rg}(h:(zd0 G st (ksA ks st)).reg q=some r):G.reg q=some r:=by
 simp only[zd0,zh0]at h
 split at h
 . exact h
 . split at h
   . rename_i i hi
     exfalso
     obtain⟨sh,this⟩:=zv9 hi
     have this:=zlh this
     unfold ksA at this
     rw[zmd,zsc,wW]at this
     exact absurd (zjb hk q this) (Nat.not_lt.2 hq)
   . cases h
theorem zn4 :∀{ps:List (Nat×Nat)} {l:List Kp},ksLt (ze5 ps++l)=ksLt l
 | [],l=>rfl
 | p::ps,l=>by
   show ksLt (.key p.1::(ze5 ps++l))=_
   rw[ksLt]
   . exact zn4
   all_goals (intros;contradiction)
theorem zif {hp:Hp}:∀{ks:List Kp},ksLt ks=true->ksLt (mvKs hp ks)=true
 | [],_=>rfl
 | x::l,h=>by
   cases x with
   | own i k sh =>
     simp only[ksLt,w2]at h
     simp only[mvKs,ksLt,w2]
     exact⟨h.1,zif h.2⟩
   | mv q p k =>
     have ih:=zif (hp:=hp) (ks:=l) (by simpa[ksLt]using h)
     simp only[mvKs]
     cases zm7 hp q p with
     | none=>exact ih
     | some j=>simpa[keyL,ksLt]using ih
   | fam q b =>
     simp only[mvKs]
     rw[zn4]
     exact zif (hp:=hp) (ks:=l) (by simpa[ksLt]using h)
   | frz q p =>
     simp only[ksLt,w2]at h
     exact zif (hp:=hp) (ks:=l) h.2
   | slot i=>simpa[mvKs,ksLt]using zif (hp:=hp) (ks:=l) (by simpa[ksLt]using h)
   | key i=>simpa[mvKs,ksLt]using zif (hp:=hp) (ks:=l) (by simpa[ksLt]using h)
theorem zz9 (k q j:Nat):sw k q (sw k q j)=j:=by
  unfold sw;repeat' split
  all_goals omega
theorem z9m {k q i j:Nat}(h:sw k q i=sw k q j):i=j:=by rw[<-zz9 k q i,h,zz9]
theorem zpr {k q i:Nat}:∀(fr:Fr),Fr.get (rnFr k q fr) i=rA (sw k q) (Fr.get fr i)
 | []=>rfl
 | .set j v::r=>by
   simp only[rnFr,Fr.get];split
   . rfl
   . exact zpr r
 | .clr a b::r=>by
   simp only[rnFr,Fr.get];split
   . rfl
   . exact zpr r
theorem zpq {k q:Nat}:∀(hp:Hp) (j:Nat),Hp.get (rnHp k q hp) (sw k q j)=(Hp.get hp j).map (rOB (sw k q))
 | [],j=>rfl
 | (i,o)::r,j=>by
   rw[rnHp,Hp.get_cons,Hp.get_cons]
   by_cases h:i=j
   . subst h;simp
   . rw[if_neg (fun e=>h (z9m e)),if_neg h];exact zpq r j
def swGh (G:Gh)(k q:Nat):Gh:={G with reg:=fun j=>G.reg (sw k q j)}
theorem zvv {k q j:Nat}:(swGh G k q).reg (sw k q j)=G.reg j:=by simp[swGh,zz9]
theorem qg9 {hp:Hp}{k q j:Nat}{o:OB}(h:Hp.get (rnHp k q hp) j=some o):∃o',Hp.get hp (sw k q j)=some o'/\o=rOB (sw k q) o':=by
 have:=zpq (k:=k) (q:=q) hp (sw k q j)
 rw[zz9,h]at this
 cases hg:Hp.get hp (sw k q j)with
 | none=>rw[hg]at this;cases this
 | some o'=>rw[hg]at this;exact⟨o',rfl,by simpa using this⟩
theorem zt8 {hp:Hp}{k q j:Nat}(h:za0 (rnHp k q hp) j):za0 hp (sw k q j):=by
 obtain⟨o,ho,hd⟩:=h
 obtain⟨o',h1,rfl⟩:=qg9 ho
 exact⟨o',h1,zho hd⟩
theorem qcd {k q j b:Nat}{r:Sh}(h:(swGh G k q).At j b r):G.At (sw k q j) b r:=h
theorem zua {hp:Hp}{k q b:Nat}(h:Live (swGh G k q) (rnHp k q hp) b):Live G hp b:=by
 obtain⟨j,r,h2,h1⟩:=h
 exact⟨sw k q j,r,zt8 h2,qcd h1⟩
theorem z9s {hp:Hp}(inv:Inv H G hp)(k q:Nat):Inv H (swGh G k q) (rnHp k q hp) where
 obs j o h:=by
  obtain⟨o',h1,rfl⟩:=qg9 h
  exact zja (inv.obs _ o' h1) rfl (fun _ h=>h) (fun _ _ h=>h) fun _ _=>zvv
 out j h:=by
  have:=zpq (k:=k) (q:=q) hp (sw k q j)
  rw[zz9,h]at this
  exact inv.out _ (by cases hg:Hp.get hp (sw k q j)with
   | none=>rfl
   | some o=>rw[hg]at this;cases this)
 dist j j' b r r' h h' hl hl':=z9m (inv.dist _ _ b r r' (qcd h) (qcd h') (zt8 hl) (zt8 hl'))
 imm b hb:=⟨(inv.imm b hb).1,fun hl=>(inv.imm b hb).2 (zua hl)⟩
 lt b hb:=inv.lt b (zua hb)
theorem qg8 (hst:StOk H G st tmps)(k q:Nat):StOk H (swGh G k q) {fr:=rnFr k q st.fr,hp:=rnHp k q st.hp} tmps/\Move H G st.hp H (swGh G k q) (rnHp k q st.hp) :=
 ⟨⟨z9s hst.inv k q,fun i=>by
   show RepT H _ _ (Fr.get (rnFr k q st.fr) i)
   rw[zpr];exact(hst.fr i).renA (.inr fun _ h=>h) (fun _ _ h=>h) fun _ _=>zvv⟩,
  ⟨z9s hst.inv k q,w4 _,fun b hb=>⟨hb,rfl⟩,fun i l h=>h,fun b _ _=>rfl,fun b hb=>.inl (zua hb),fun b hb=>.inl hb⟩⟩
theorem zv3 :∀{ps:List (Nat×Nat)} {G:Gh} {st st1:St},StOk H G st tmps->zjy ps st=some st1 ->
  ∃G2,StOk H G2 st1 tmps/\Move H G st.hp H G2 st1.hp/\∀q,SHK<=q->G2.reg q=G.reg q
 | [],G,st,st1,hst,h=>by
   simp only[zjy,wY]at h
   subst h
   exact⟨G,hst,Move.refl hst.inv,fun _ _=>rfl⟩
 | p::l,G,st,st1,hst,h=>by
   simp only[zjy,wX]at h
   obtain⟨st2,h1,h2⟩:=h
   have key:∃G2,StOk H G2 st2 tmps/\Move H G st.hp H G2 st2.hp/\∀q,SHK<=q->G2.reg q=G.reg q:=by
    simp only[rn1]at h1
    split at h1
    . cases h1;exact⟨G,hst,Move.refl hst.inv,fun _ _=>rfl⟩
    . split at h1
      . rename_i hlt
        cases h1
        obtain⟨a1,a2⟩:=qg8 hst p.1 p.2
        refine⟨_,a1,a2,fun i hi=> ?_⟩
        show G.reg (sw p.1 p.2 i)=G.reg i
        rw[sw,if_neg (by omega),if_neg (by omega)]
      . cases h1
   obtain⟨G2,a1,a2,a3⟩:=key
   obtain⟨G3,b1,b2,b3⟩:=zv3 a1 h2
   exact⟨G3,b1,a2.trans b2,fun i hi=>(b3 i hi).trans (a3 i hi)⟩
theorem zh9 {hp0:Hp}:∀{ks:List Kp} {G:Gh} {st st1:St},StOk H G st tmps->rnMv hp0 ks st=some st1 ->
  ∃G2,StOk H G2 st1 tmps/\Move H G st.hp H G2 st1.hp/\∀q,SHK<=q->G2.reg q=G.reg q
 | [],G,st,st1,hst,h=>by
   simp only[rnMv,wY]at h
   subst h
   exact⟨G,hst,Move.refl hst.inv,fun _ _=>rfl⟩
 | x::l,G,st,st1,hst,h=>by
   cases x with
   | mv q p k =>
     simp only[rnMv,wX]at h
     obtain⟨st2,h1,h2⟩:=h
     have key:∃G2,StOk H G2 st2 tmps/\Move H G st.hp H G2 st2.hp/\∀q,SHK<=q->G2.reg q=G.reg q:=by
      cases hc:zm7 hp0 q p with
      | none=>rw[hc]at h1;simp only[rn1,wY]at h1;subst h1;exact⟨G,hst,Move.refl hst.inv,fun _ _=>rfl⟩
      | some j =>
        rw[hc]at h1
        simp only[rn1]at h1
        split at h1
        . cases h1;exact⟨G,hst,Move.refl hst.inv,fun _ _=>rfl⟩
        . split at h1
          . rename_i hlt
            cases h1
            obtain⟨a1,a2⟩:=qg8 hst j k
            refine⟨_,a1,a2,fun i hi=> ?_⟩
            show G.reg (sw j k i)=G.reg i
            rw[sw,if_neg (by omega),if_neg (by omega)]
          . cases h1
     obtain⟨G2,a1,a2,a3⟩:=key
     obtain⟨G3,b1,b2,b3⟩:=zh9 a1 h2
     exact⟨G3,b1,a2.trans b2,fun i hi=>(b3 i hi).trans (a3 i hi)⟩
   | fam q b =>
     simp only[rnMv,wX]at h
     obtain⟨st2,h1,h2⟩:=h
     obtain⟨G2,a1,a2,a3⟩:=zv3 hst h1
     obtain⟨G3,b1,b2,b3⟩:=zh9 a1 h2
     exact⟨G3,b1,a2.trans b2,fun i hi=>(b3 i hi).trans (a3 i hi)⟩
   | frz q p=>exact zh9 hst (by simpa[rnMv]using h)
   | slot i=>exact zh9 hst (by simpa[rnMv]using h)
   | key i=>exact zh9 hst (by simpa[rnMv]using h)
   | own i j sh=>exact zh9 hst (by simpa[rnMv]using h)
def immK (G:Gh)(K:List Nat):Gh:={G with imm:=fun b=>G.imm b\/∃k,k∈K/\∃r,G.At k b r}
theorem zms (H:Heap)(G:Gh)(K:List Nat):Le H G H (immK G K):=⟨fun b hb=>⟨.inl hb,rfl⟩,ze1 fun _ _ h=>h,fun _ _ h=>h⟩
theorem zhf (hp:Hp)(j:Nat):∀(K:List Nat),Hp.get (zik K++hp) j=if j∈K then some .dead else Hp.get hp j
 | []=>by simp[zik]
 | k::K=>by
   show Hp.get ((k,.dead)::(zik K++hp)) j=_
   rw[Hp.get_cons,zhf hp j K]
   by_cases h:k=j
   . subst h;simp
   . rw[if_neg h]
     by_cases h2:j∈K
     . simp[h2]
     . rw[if_neg h2,if_neg (by simp only[wD,not_or];exact⟨fun e=>h e.symm,h2⟩)]
theorem zdz {hp:Hp}{K:List Nat}{j:Nat}(h:za0 (zik K++hp) j):j∉K/\za0 hp j:=by
 obtain⟨o,h1,h2⟩:=h
 rw[zhf]at h1
 split at h1
 . cases h1;exact absurd rfl h2
 . rename_i hk;exact⟨hk,o,h1,h2⟩
theorem z7o {hp:Hp}(inv:Inv H G hp){K:List Nat}(hK:∀k∈K,za0 hp k):Inv H (immK G K) (zik K++hp) where
 obs j o hj:=by
  rw[zhf]at hj
  split at hj
  . rename_i hk
    cases hj
    obtain⟨o,h1,_⟩:=hK j hk
    exact inv.get_reg h1
  . exact ObOk.mono (hp:=hp) (zms H G K) (fun _ _ _ _=>rfl) (fun r hr=>hr) hj (inv.obs j o hj)
 out j hj:=by
  rw[zhf]at hj
  split at hj
  . cases hj
  . exact inv.out j hj
 dist j j' b r r' h1 h2 l1 l2:=inv.dist j j' b r r' h1 h2 (zdz l1).2 (zdz l2).2
 imm b hb:=by
  rcases hb with hb|⟨k,hk,r,hat⟩
  . exact⟨(inv.imm b hb).1,fun⟨j,r,l,h⟩=>(inv.imm b hb).2 ⟨j,r,(zdz l).2,h⟩⟩
  . refine⟨inv.lt b ⟨k,r,hK k hk,hat⟩,fun⟨j,r',l,h⟩=> ?_⟩
    have:=inv.dist k j b r r' hat h (hK k hk) (zdz l).2
    exact(zdz l).1 (this▸hk)
 lt b:=fun⟨j,r,l,h⟩=>inv.lt b ⟨j,r,(zdz l).2,h⟩
theorem qdl {hp:Hp}(inv:Inv H G hp){q:Nat}{o o':OB}(hq:hp.get q=some o)(hd:o≠.dead)(ho:ObOk H G q o'):Inv H G ((q,o')::hp) where
 obs j x hj:=by
  rw[Hp.get_cons]at hj
  split at hj
  . rename_i e;cases hj;rw[<-e];exact ho
  . exact inv.obs j x hj
 out j hj:=by
  rw[Hp.get_cons]at hj
  split at hj
  . cases hj
  . exact inv.out j hj
 dist j j' b r r' h1 h2 l1 l2:=by
  have key:∀i,za0 ((q,o')::hp) i->za0 hp i:=fun i hi=>by
   rcases zba.1 hi with ⟨e,_⟩|⟨_,h⟩
   . rw[<-e];exact⟨o,hq,hd⟩
   . exact h
  exact inv.dist j j' b r r' h1 h2 (key _ l1) (key _ l2)
 imm b hb:=⟨(inv.imm b hb).1,fun⟨j,r,l,h⟩=>(inv.imm b hb).2 ⟨j,r,(by
     rcases zba.1 l with ⟨e,_⟩|⟨_,h⟩
     . rw[<-e];exact⟨o,hq,hd⟩
     . exact h),h⟩⟩
 lt b:=fun⟨j,r,l,h⟩=>inv.lt b ⟨j,r,(by
     rcases zba.1 l with ⟨e,_⟩|⟨_,h⟩
     . rw[<-e];exact⟨o,hq,hd⟩
     . exact h),h⟩
theorem znj (els:List AV)(n:Nat):∃post,AV.flats els=AV.flats (els.take n)++post:=⟨AV.flats (els.drop n),by rw[<-AV.flats_append,wP]⟩
theorem z93 {hp:Hp}(inv:Inv H G hp){K:List Nat}{v:Value}{k n:Nat}(hK:k∈K)(hv:RepS H G v (.sl k [] 0 n)){sh:Sh}{els:List AV}
  (ho:(∃b cap c e fz,G.reg k=some (.blk b (.ar cap sh))/\n<=cap/\H[b]? =some (.cells c e fz)/\els.length=n/\(∀x∈els,zap sh x=true/\x.plain=true/\x.wf)/\∀j (h:j<(AV.flats els).length),∃u,c[0+j]? =some u/\RepS H (immK G K) u (AV.flats els)[j])\/(els=[]/\n=0)) :
  RepS H (immK G K) v (.lst false sh els):=by
 generalize hx:AV.sl k [] 0 n=x at hv
 cases hv<;>cases hx
 . rename_i b root m e o hr hs ho' hle
   rcases ho with ⟨b',cap,c,e',fz,h1,h2,h3,h4,h5,h6⟩|⟨rfl,rfl⟩
   . rw[h1]at hr
     cases hr
     simp only[Sh.sub,wY,Sh.ar.injEq]at hs
     obtain⟨rfl,rfl⟩:=hs
     simp only[Sh.off,wY]at ho'
     subst ho'
     refine .lst false sh els _ _ n _ c e' fz (.inr ⟨k,hK,_,.of h1⟩) h3 h4.symm (by omega) (fun h=>by cases h) h5 (fun j=>(c[0+j]?).getD undef) (fun j hj=> ?_) fun j hj=> ?_
     . obtain⟨u,hu,_⟩:=h6 j hj
       simp only[Nat.zero_mul,Nat.add_zero,hu,w1]
     . obtain⟨u,hu,hr⟩:=h6 j hj
       simp only[hu,w1];exact hr
   . exact .lstE false sh _ _ fun h=>by cases h
 . rename_i b x root m e hr hs ho'
   rcases ho with ⟨b',cap,c,e',fz,h1,h2,h3,h4,h5,h6⟩|⟨rfl,_⟩
   . obtain rfl:=List.length_eq_zero_iff.1 h4
     exact .lstE false sh _ _ fun h=>by cases h
   . exact .lstE false sh _ _ fun h=>by cases h
 . rename_i a hr
   rcases ho with ⟨b',cap,c,e',fz,h1,h2,h3,h4,h5,h6⟩|⟨rfl,_⟩
   . rw[h1]at hr;cases hr
   . exact .lstE false sh _ _ fun h=>by cases h
theorem qd0 {hp:Hp}(inv:Inv H G hp){K:List Nat}{v:Value}{x y:AV}{ks:List Nat}(h:frzE hp x=some (y,ks))(hK:∀k∈ks,k∈K)(hv:RepS H G v x) :
  RepS H (immK G K) v y/\(∃f s l,y= .lst f s l)/\∀k∈ks,za0 hp k:=by
 unfold frzE at h
 split at h
 . cases h
   exact⟨hv.mono (zms H G K),⟨_,_,_,rfl⟩,fun k hk=>by cases hk⟩
 . rename_i k n
   split at h
   . rename_i sh els hk
     split at h
     . rename_i hn
       cases h
       refine⟨z93 inv (hK k (by simp)) hv ?_,⟨_,_,_,rfl⟩,fun j hj=>by rw[wB]at hj;rw[hj];exact⟨_,hk,by simp⟩⟩
       rcases inv.obs k _ hk with ⟨h1,h2⟩|⟨b,cap,c,e,fz,h1,h2,h3,h4,h5,h6,h7⟩
       . right;subst h1;exact⟨by simp,by simpa using hn⟩
       . left
         obtain⟨post,hpost⟩:=znj els n
         refine⟨b,cap,c,e,fz,h1,by omega,h3,by rw[wS];omega,fun z hz=>h6 z (List.mem_of_mem_take hz),fun j hj=> ?_⟩
         have hj':j<(AV.flats els).length:=by rw[hpost,wR];omega
         obtain⟨u,hu,hr⟩:=h7 j hj'
         refine⟨u,hu,?_⟩
         have e1:(AV.flats els)[j]=(AV.flats (els.take n))[j]:=by
          have:(AV.flats els)[j]? =(AV.flats (els.take n))[j]? :=by rw[hpost,wN hj]
          rw[wE hj',wE hj]at this
          exact Option.some.inj this
         rw[<-e1];exact hr.mono (zms H G K)
     . cases h
   . cases h
 . cases h
theorem z30 {hp:Hp}{x y:AV}{ks:List Nat}(h:frzE hp x=some (y,ks)):∀k∈ks,za0 hp k:=by
 unfold frzE at h
 split at h
 . cases h;exact fun k hk=>by cases hk
 . split at h
   . rename_i hk
     split at h
     . cases h;exact fun j hj=>by rw[wB]at hj;rw[hj];exact⟨_,hk,by simp⟩
     . cases h
   . cases h
 . cases h
theorem zoh {hp:Hp}:∀{l m:List AV} {ks:List Nat},zjg hp l=some (m,ks)->∀k∈ks,za0 hp k
 | [],m,ks,h=>by
   simp only[zjg,wY,w5]at h
   obtain⟨rfl,rfl⟩:=h
   exact fun k hk=>by cases hk
 | x::l,m,ks,h=>by
   simp only[zjg,wX,w0]at h
   obtain⟨⟨y,k1⟩,h1,⟨m',k2⟩,h2,h3⟩:=h
   simp only[w5]at h3
   obtain⟨rfl,rfl⟩:=h3
   intro k hk
   rw[wV]at hk
   exact hk.elim (z30 h1 k) (zoh h2 k)
theorem z3w {α:Type}(pre:List α)(x:α)(post:List α)(j:Nat):(pre++[x]++post)[j]? =if j<pre.length then pre[j]? else if j=pre.length then some x else post[j-pre.length-1]? :=by
 rw[wJ]
 by_cases h:j<pre.length
 . rw[if_pos h,wN h]
 . rw[if_neg h,wF (by omega)]
   by_cases h2:j=pre.length
   . rw[if_pos h2,h2];simp
   . rw[if_neg h2]
     obtain⟨i,hi⟩:∃i,j-pre.length=i+1:=⟨j-pre.length-1,by omega⟩
     rw[hi];rfl
theorem zw2 {hp:Hp}(inv:Inv H G hp){K:List Nat}:∀{l m:List AV} {ks:List Nat},zjg hp l=some (m,ks)->(∀k∈ks,k∈K) ->
  m.length=l.length/\(∀j (h:j<l.length) (h':j<m.length),∀v,RepS H G v l[j]->RepS H (immK G K) v m[j])/\(∀x∈m,∃f s l,x= .lst f s l)
 | [],m,ks,h,hK=>by
   simp only[zjg,wY,w5]at h
   obtain⟨rfl,rfl⟩:=h
   exact⟨rfl,fun j h=>by simp at h,fun x hx=>by cases hx⟩
 | x::l,m,ks,h,hK=>by
   simp only[zjg,wX,w0]at h
   obtain⟨⟨y,k1⟩,h1,⟨m',k2⟩,h2,h3⟩:=h
   simp only[w5]at h3
   obtain⟨rfl,rfl⟩:=h3
   obtain⟨i1,i2,i3⟩:=zw2 inv h2 fun k hk=>hK k (by simp[hk])
   refine⟨by simp[i1],fun j hj hj' v hv=> ?_,fun z hz=> ?_⟩
   . cases j with
     | zero=>exact(qd0 inv h1 (fun k hk=>hK k (by simp[hk])) hv).1
     | succ j=>exact i2 j (by simpa using hj) (by simpa using hj') v hv
   . rcases wD.1 hz with rfl|hz
     . unfold frzE at h1
       split at h1
       . cases h1;exact⟨_,_,_,rfl⟩
       . split at h1
         . split at h1
           . cases h1;exact⟨_,_,_,rfl⟩
           . cases h1
         . cases h1
       . cases h1
     . exact i3 z hz
theorem zs3 :∀{m:List AV},(∀x∈m,∃f s l,x= .lst f s l)->AV.flats m=m
 | [],_=>rfl
 | x::m,h=>by
   obtain⟨f,s,l,rfl⟩:=h x (by simp)
   rw[AV.flats,zs3 fun z hz=>h z (by simp[hz])];rfl
theorem zw4 :∀{m:List AV},(∀x∈m,x.scalar=true)->AV.flats m=m
 | [],_=>rfl
 | x::m,h=>by rw[AV.flats,zw4 fun z hz=>h z (by simp[hz]),AV.flat_scalar (h x (by simp))];rfl
theorem qd1 {st st1:St}{q:Nat}{p:List Nat}(hst:StOk H G st tmps)(h:frz1 st q p=some st1) :
  ∃G2,StOk H G2 st1 tmps/\Move H G st.hp H G2 st1.hp/\∀j,G2.reg j=G.reg j:=by
 unfold frz1 at h
 split at h
 case h_2=>cases h
 rename_i sh a hq
 split at h
 case h_2=>cases h
 rename_i k n hnav hsub
 split at h
 case h_2=>cases h
 rename_i m b hk
 rw[wX]at h
 obtain⟨⟨els,ks⟩,h1,h⟩:=h
 rw[wZ,w0]at h
 obtain⟨hcond,a',ha',rfl⟩:=h
 simp only[w2,decide_eq_true_eq,Bool.not_eq_true']at hcond
 obtain⟨⟨⟨hmn,hqK⟩,_⟩,_⟩:=hcond
 subst hmn
 have inv:=hst.inv
 have hqK:q∉k::ks:=fun e=>by rw[List.contains_iff_mem.2 e]at hqK;cases hqK
 obtain⟨bq,cq,eq',fq,rq,hbq,szq,frq,shq,wq,rcq⟩:=inv.obs q _ hq
 obtain⟨bk,ck,ek,fk,rk,hbk,szk,frk,shk,wk,rck⟩:=inv.obs k _ hk
 simp only[zap,w2,beq_iff_eq,wT]at shk
 have hbf:b.flat=b.kids:=by rw[AV.flat_kids shk.1.1,zw4 fun x hx=>shk.2 x hx]
 obtain⟨f1,f2,f3⟩:=zw2 (K:=k::ks) inv h1 fun j hj=>List.mem_cons_of_mem _ hj
 rw[hbf]at rck
 have hlive:∀j∈k::ks,za0 st.hp j:=by
  intro j hj
  rcases wD.1 hj with rfl|hj
  . exact⟨_,hk,by simp⟩
  . exact zoh h1 j hj
 have inv1:=z7o inv hlive
 obtain⟨x,o,pre,post,n1,n2,n3,n4,n5,n6,n7,n8⟩:=zd8 p sh a .sc shq hsub
 rw[hnav]at n1
 cases n1
 obtain⟨a2,m1,m2,m3,m4,m5⟩:=n8 (.lst false .sc els) rfl
 rw[ha']at m1
 cases m1
 have hfl:a.flat=pre++[.sl k [] 0 m]++post:=n4
 have hfl':a'.flat=pre++[.lst false .sc els]++post:=m3
 have hval:∃v,cq[0+pre.length]? =some v/\RepS H G v (.sl k [] 0 m):=by
  have hlt:pre.length<a.flat.length:=by rw[hfl];simp
  obtain⟨v,hv,hr⟩:=rcq pre.length hlt
  refine⟨v,hv,?_⟩
  have:a.flat[pre.length]= .sl k [] 0 m:=by
   have:a.flat[pre.length]? =some (.sl k [] 0 m):=by rw[hfl,wJ,wF (w4 _)];simp
   rw[wE hlt]at this
   exact Option.some.inj this
  rw[<-this];exact hr
 obtain⟨v,hv,hrv⟩:=hval
 have hnew:RepS H (immK G (k::ks)) v (.lst false .sc els):=z93 inv List.mem_cons_self hrv (.inl ⟨bk,m,ck,ek,fk,rk,w4 _,hbk,by rw[f1];exact shk.1.2,fun z hz=>by
   obtain⟨f,s,l,rfl⟩:=f3 z hz
   exact⟨rfl,rfl,trivial⟩,fun j hj=>by
   have e1:=zs3 f3
   have hj1:j<els.length:=by rw[<-e1];exact hj
   have hj2:j<b.kids.length:=by rw[<-f1];exact hj1
   obtain⟨u,hu,hr⟩:=rck j hj2
   refine⟨u,hu,?_⟩
   have:=f2 j hj2 hj1 u hr
   have e2:(AV.flats els)[j]=els[j]:=by congr 1
   rw[e2];exact this⟩)
 have hob:ObOk H (immK G (k::ks)) q (.fix sh a'):=by
  refine⟨bq,cq,eq',fq,rq,hbq,szq,frq,m2,m4 wq trivial,fun j hj=> ?_⟩
  have hlen:a'.flat.length=a.flat.length:=by rw[hfl,hfl'];simp
  obtain⟨u,hu,hr⟩:=rcq j (by rw[<-hlen];exact hj)
  by_cases e:j=pre.length
  . refine⟨v,by rw[e];exact hv,?_⟩
    have:a'.flat[j]? =some (.lst false .sc els):=by rw[hfl',e,wJ,wF (w4 _)];simp
    rw[wE hj]at this
    rw[Option.some.inj this];exact hnew
  . refine⟨u,hu,?_⟩
    have:a'.flat[j]? =a.flat[j]? :=by
     rw[hfl,hfl',z3w,z3w,if_neg e,if_neg e]
    rw[wE hj,wE (by rw[<-hlen];exact hj)]at this
    rw[Option.some.inj this];exact hr.mono (zms H G _)
 have hq1:Hp.get (zik (k::ks)++st.hp) q=some (.fix sh a):=by rw[zhf,if_neg hqK];exact hq
 have inv2:=qdl inv1 hq1 (by simp) hob
 have hlv:∀b,Live (immK G (k::ks)) ((q,.fix sh a')::(zik (k::ks)++st.hp)) b->Live G st.hp b:=fun b ⟨j,r,l,hat⟩=>by
  refine⟨j,r,?_,hat⟩
  rcases zba.1 l with ⟨e,_⟩|⟨_,h⟩
  . rw[<-e];exact⟨_,hq,by simp⟩
  . exact(zdz h).2
 exact⟨immK G (k::ks),⟨inv2,fun i=>(hst.fr i).mono (zms H G _)⟩,⟨inv2,w4 _,fun b hb=>⟨.inl hb,rfl⟩,fun i l h=>h,fun _ _ _=>rfl,fun b hb=>.inl (hlv b hb),fun b hb=>by
  rcases hb with hb|⟨j,hj,r,hat⟩
  . exact .inl hb
  . exact .inr (.inr ⟨j,r,hlive j hj,hat⟩)⟩,fun _=>rfl⟩
theorem ze7 :∀{ks:List Kp} {G:Gh} {st st1:St},StOk H G st tmps->zcj ks st=some st1 ->
  ∃G2,StOk H G2 st1 tmps/\Move H G st.hp H G2 st1.hp/\∀j,G2.reg j=G.reg j
 | [],G,st,st1,hst,h=>by
   simp only[zcj,wY]at h
   subst h
   exact⟨G,hst,Move.refl hst.inv,fun _=>rfl⟩
 | x::l,G,st,st1,hst,h=>by
   cases x with
   | frz q p =>
     simp only[zcj,wX]at h
     obtain⟨st2,h1,h2⟩:=h
     obtain⟨G2,a1,a2,a3⟩:=qd1 hst h1
     obtain⟨G3,b1,b2,b3⟩:=ze7 a1 h2
     exact⟨G3,b1,a2.trans b2,fun j=>(b3 j).trans (a3 j)⟩
   | mv q p k=>exact ze7 hst (by simpa[zcj]using h)
   | fam q b=>exact ze7 hst (by simpa[zcj]using h)
   | slot i=>exact ze7 hst (by simpa[zcj]using h)
   | key i=>exact ze7 hst (by simpa[zcj]using h)
   | own i j sh=>exact ze7 hst (by simpa[zcj]using h)
theorem zxk {ks:List Kp}(hst:StOk H G st tmps)(h:zcr ks st=some st1) :
  ∃G2,StOk H G2 st1 tmps/\Move H G st.hp H G2 st1.hp/\(ksLt ks=true->∀q,SHK<=q->∀r,G2.reg q=some r->G.reg q=some r):=by
 unfold zcr at h
 rw[wX]at h
 obtain⟨st3,h,h3⟩:=h
 unfold zxl at h
 rw[wX]at h
 obtain⟨st2,h1,h2⟩:=h
 obtain⟨a1,a2⟩:=z42 hst h1
 obtain⟨G3,b1,b2,b3⟩:=zh9 a1 h2
 obtain⟨G4,c1,c2,c3⟩:=ze7 b1 h3
 exact⟨G4,c1,(a2.trans b2).trans c2,fun hk q hq r hr=>zvd (zif hk) hq ((b3 q hq).symm.trans ((c3 q).symm.trans hr))⟩
end Go.Ev
