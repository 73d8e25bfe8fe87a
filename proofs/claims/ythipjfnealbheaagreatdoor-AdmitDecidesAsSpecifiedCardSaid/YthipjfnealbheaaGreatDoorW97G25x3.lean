/-
  Chapter 17: the specification's search, whole. No condition.
-/
import Derived.Test.YthipjfnealbheaaGreatDoorW97G24x3
set_option linter.all false
open Int renaming le_trans->wB
open Nat renaming le_refl->wC,exists_eq_add_of_le'->wD
open List renaming length_append->wE,length_singleton->wF,getElem?_eq_getElem->wG,append_assoc->wH,take_length->wJ,length_take->wK
namespace Go.Proofs.S97
open Go Go.Ev Go.Proofs Go.Proofs.S97.Q
variable {gl :Gl} {n:Nat}
open Go.Mp (esN fN MOk)
theorem qjm {d:Nat}{S0:Sf}{h:Ob}(hr:ROk h){v:Vt}(hs0:SK S0 v.S)(hi:IV h v)(hf:¬v.S.c<tot v.S+h.sz):isEx (evC gl (call gl tab (d+12)) L28 (S28A S0 h v))=true:=by
 have htl:tot v.S<=1099511627776:=wB hi.hv.ht hi.hv.c.2
 have ht0:0<=tot v.S:=(zcb hi.hv.va (wC _)).1
 have hsz:=hr.sz
 have hcc:=hi.hv.c
 have c1:call gl tab (d+12) 38 [.lst false sA (ac v.S.A)] []=some (i64 (tot v.S),[],[]):=@zdh gl (d+12) (by omega) false sA v.S.A (.inr rfl) hi.hv.va
 rw[hs0.c]at hf hcc
 generalize tot v.S=t at *
 simp(disch:=apply zq;omega) only[go_sem,simprocAttr,↓Nat.reduceEqDiff,xx,L28,m28,S28A,c1]
set_option maxHeartbeats 2000000 in
theorem qhi [Nonempty (H.GlR gl)]{d:Nat}{S0:Sf}{h:Ob}(hr:ROk h){v:Vt}(hk:KOk S0)(hs0:SK S0 v.S)(hi:IV h v)(hf:v.S.c<tot v.S+h.sz)(hw:wls v h=[]):isEx (evC gl (call gl tab (d+12)) L28 (S28A S0 h v))=true:=by
 have htl:tot v.S<=1099511627776:=wB hi.hv.ht hi.hv.c.2
 have ht0:0<=tot v.S:=(zcb hi.hv.va (wC _)).1
 have hsz:=hr.sz
 have hcc:=hi.hv.c
 have hH:=hi.hv.hn
 have hbs:=z1b.1 hw
 have c1:call gl tab (d+12) 38 [.lst false sA (ac v.S.A)] []=some (i64 (tot v.S),[],[]):=@zdh gl (d+12) (by omega) false sA v.S.A (.inr rfl) hi.hv.va
 have c2:=@zit gl (d+12) (by omega) v.S hi.hv hi.ht h hr hi.ha hf
 have lp:=fun st hst=>@zpy gl _ (d+1) S0 h v hk hs0 hH hi.nm (vtn v.S h) st hst
 rw[hs0.c]at c2 hf hcc
 simp only[L28i,L28,m28]at lp
 generalize tot v.S=tS at *
 generalize vtn v.S h=t at *
 generalize rbs v.S t v.S.H.length=b at *
 rcases c2 with ⟨g2,ht⟩|g2
 . subst ht
   simp(disch:=apply zq;omega) only[go_sem,simprocAttr,↓Nat.reduceEqDiff,xx,L28,m28,S28A,c1,g2]
   rw[lp _ (by simp(disch:=apply zq;omega) only[go_sem,simprocAttr,↓Nat.reduceEqDiff,xx,zel,S28A])]
   simp(disch:=apply zq;omega) only[go_sem,simprocAttr,↓Nat.reduceEqDiff,xx,zel,zaa]
 . simp(disch:=apply zq;omega) only[go_sem,simprocAttr,↓Nat.reduceEqDiff,xx,L28,m28,S28A,c1,g2]
   rw[lp _ (by simp(disch:=apply zq;omega) only[go_sem,simprocAttr,↓Nat.reduceEqDiff,xx,zel,S28A])]
   simp(disch:=apply zq;omega) only[go_sem,simprocAttr,↓Nat.reduceEqDiff,xx,zel,zaa]
theorem qjl {d:Nat}{S0:Sf}{h:Ob}(hr:ROk h){v:Vt}(hs0:SK S0 v.S)(hi:IV h v)(hf:¬v.S.c<tot v.S+h.sz):isEx (evC gl (call gl tab (d+12)) L28 (S28B S0 h v))=true:=by
 have htl:tot v.S<=1099511627776:=wB hi.hv.ht hi.hv.c.2
 have ht0:0<=tot v.S:=(zcb hi.hv.va (wC _)).1
 have hsz:=hr.sz
 have hcc:=hi.hv.c
 have c1:call gl tab (d+12) 38 [.lst false sA (ac v.S.A)] []=some (i64 (tot v.S),[],[]):=@zdh gl (d+12) (by omega) false sA v.S.A (.inr rfl) hi.hv.va
 rw[hs0.c]at hf hcc
 generalize tot v.S=t at *
 simp(disch:=apply zq;omega) only[go_sem,simprocAttr,↓Nat.reduceEqDiff,xx,L28,m28,S28B,c1]
set_option maxHeartbeats 2000000 in
theorem qhh [Nonempty (H.GlR gl)]{d:Nat}{S0:Sf}{h:Ob}(hr:ROk h){v:Vt}(hk:KOk S0)(hs0:SK S0 v.S)(hi:IV h v)(hf:v.S.c<tot v.S+h.sz)(hw:wls v h=[]):isEx (evC gl (call gl tab (d+12)) L28 (S28B S0 h v))=true:=by
 have htl:tot v.S<=1099511627776:=wB hi.hv.ht hi.hv.c.2
 have ht0:0<=tot v.S:=(zcb hi.hv.va (wC _)).1
 have hsz:=hr.sz
 have hcc:=hi.hv.c
 have hH:=hi.hv.hn
 have hbs:=z1b.1 hw
 have c1:call gl tab (d+12) 38 [.lst false sA (ac v.S.A)] []=some (i64 (tot v.S),[],[]):=@zdh gl (d+12) (by omega) false sA v.S.A (.inr rfl) hi.hv.va
 have c2:=@zit gl (d+12) (by omega) v.S hi.hv hi.ht h hr hi.ha hf
 have lp:=fun st hst=>@zpx gl _ (d+1) S0 h v hk hs0 hH hi.nm (vtn v.S h) st hst
 rw[hs0.c]at c2 hf hcc
 simp only[L28i,L28,m28]at lp
 generalize tot v.S=tS at *
 generalize vtn v.S h=t at *
 generalize rbs v.S t v.S.H.length=b at *
 rcases c2 with ⟨g2,ht⟩|g2
 . subst ht
   simp(disch:=apply zq;omega) only[go_sem,simprocAttr,↓Nat.reduceEqDiff,xx,L28,m28,S28B,c1,g2]
   rw[lp _ (by simp(disch:=apply zq;omega) only[go_sem,simprocAttr,↓Nat.reduceEqDiff,xx,zek,S28B])]
   simp(disch:=apply zq;omega) only[go_sem,simprocAttr,↓Nat.reduceEqDiff,xx,zek,zaa]
 . simp(disch:=apply zq;omega) only[go_sem,simprocAttr,↓Nat.reduceEqDiff,xx,L28,m28,S28B,c1,g2]
   rw[lp _ (by simp(disch:=apply zq;omega) only[go_sem,simprocAttr,↓Nat.reduceEqDiff,xx,zek,S28B])]
   simp(disch:=apply zq;omega) only[go_sem,simprocAttr,↓Nat.reduceEqDiff,xx,zek,zaa]
def SVr (S0:Sf)(h:Ob)(v:Vt):St:=if v.b=true then S28B S0 h v else S28A S0 h v
theorem z9c {S0:Sf}{h:Ob}{v:Vt}(e:v.b=true):SVr S0 h v=S28B S0 h v:=by rw[SVr,if_pos e]
theorem z9d {S0:Sf}{h:Ob}{v:Vt}(e:v.b=false):SVr S0 h v=S28A S0 h v:=by rw[SVr,if_neg (by rw[e];decide)]
theorem qht [Nonempty (H.GlR gl)]{d:Nat}{S:Sf}{h:Ob}(hr:ROk h)(hhn:h.nm.length<=5000)(hk:KOk S)(hi:IV h (v0 S)){st:St}
  (hst:zcr [.slot 2,.slot 3,.slot 4,.slot 5,.slot 6,.key 2,.key 3,.key 4,.key 5,.mv 5 [0] 6050] st=some (S28A S h (v0 S))) :
  iter (evC gl (call gl tab (d+12)) L28) [.slot 2,.slot 3,.slot 4,.slot 5,.slot 6,.key 2,.key 3,.key 4,.key 5,.mv 5 [0] 6050] LF st=evC gl (call gl tab (d+12)) L28 (SVr S h (vE S h)) /\
   IV h (vE S h)/\goV h (vE S h)=false/\SK S (vE S h).S/\((vE S h).b=false->vE S h=v0 S):=by
 obtain⟨v,⟨h1,h2,h3,h4⟩,hg,hit⟩:=zfu (f:=evC gl (call gl tab (d+12)) L28) (ks:=[.slot 2,.slot 3,.slot 4,.slot 5,.slot 6,.key 2,.key 3,.key 4,.key 5,.mv 5 [0] 6050]) (SVr S h)
  (fun v=>IV h v/\(v.b=false->v=v0 S)/\runV h v.S.H.length v=runV h S.H.length (v0 S)/\SK S v.S) (fun v=>v.S.H.length) (nxt h) (goV h) (a0:=v0 S) (by have:=hi.hv.hn;unfold LF;show S.H.length<_;have h2:(v0 S).S.H.length=S.H.length:=rfl;omega)
  ⟨hi,fun _=>rfl,rfl,⟨rfl,rfl,rfl,rfl,rfl⟩⟩
  (fun v ⟨h1,h2,h3,h4⟩ hg=>by
    obtain⟨g1,g2⟩:=z7q hg
    have hl:=zi9 h1 g2
    refine⟨?_,⟨zmo h1 g2,(fun h=>by cases h),?_,h4.next⟩,by show(nxt h v).S.H.length<v.S.H.length;omega⟩
    . rw[z9c (show(nxt h v).b=true from rfl)]
      cases hb:v.b with
      | true=>rw[z9c hb];exact qbr hr hhn hk h4 h1 g1 g2
      | false =>
        rw[z9d hb]
        have e:=h2 hb
        exact qbs hr hhn hk h4 h1 (by rw[e];rfl) g1 g2
    . rw[<-h3,<-hl,zjs hg])
  (fun v ⟨h1,h2,h3,h4⟩ hg=>by
    cases hb:v.b with
    | true =>
      rw[z9c hb]
      rcases zud hg with g|⟨g1,g2⟩
      . exact qjl hr h4 h1 g
      . exact qhh hr hk h4 h1 g1 g2
    | false =>
      rw[z9d hb]
      rcases zud hg with g|⟨g1,g2⟩
      . exact qjm hr h4 h1 g
      . exact qhi hr hk h4 h1 g1 g2)
 have e:vE S h=v:=by rw[vE,<-h3,zly hg]
 rw[e]
 exact⟨hit st (by rw[z9d rfl];exact hst),h1,hg,h4,h2⟩
def zuc (v:Vt):AV:=if v.b=true then .lst false sO (hs v.o)else .lst true .sc []
theorem zvk (h:1<=n){f:Bool}{m:Sh}{l:List Ob}(hm:Mk l m sO)(hl:l.length<2^60){x:List UInt8}(hx:¬∃j,j<l.length/\(oat l j).nm=x):call gl tab n 42 [.lst f m (hs l),.str x] []=some (i64 (-1),[],[]):=by
 obtain⟨k,h1,h2,h3,c⟩:=@zvl gl n h f m l hm hl x
 rw[ix,if_neg (fun h'=>hx ⟨k,h',h3 h'⟩)]at c
 exact c
theorem z06 (h:1<=n){f:Bool}{m:Sh}{l:List Ob}(hm:Mk l m sO)(hl:l.length<2^60)(hsr:Srt l){j:Nat}(hj:j<l.length):call gl tab n 42 [.lst f m (hs l),.str (oat l j).nm] []=some (i64 j,[],[]):=by
 obtain⟨k,h1,h2,h3,c⟩:=@zvl gl n h f m l hm hl (oat l j).nm
 have h4:k<l.length:=by
  rcases Nat.lt_or_ge k l.length with h'|h'
  . exact h'
  . exact absurd rfl (h2 j (by omega))
 have e1:=zms hsr h4
 have e2:=zms hsr hj
 rw[h3 h4]at e1
 have e:k=j:=by omega
 rw[ix,if_pos h4,e]at c
 exact c
theorem qcm (h:1<=n){f:Bool}{m:Sh}{l:List A3}(hm:Mk l m sA)(hl:l.length<2^60){x:Int}(hx:¬∃j,j<l.length/\(aat l j).t=x):call gl tab n 29 [.lst f m (ac l),i64 x] []=some (i64 (-1),[],[]):=by
 obtain⟨k,h1,h2,h3,c⟩:=@zpj gl n h f m l hm hl x
 rw[ix,if_neg (fun h'=>hx ⟨k,h',h3 h'⟩)]at c
 exact c
theorem qb7 (hn:12<=n){S:Sf}{h:Ob}(hv:VSf S){e:Int}(he:vErr S h e) :
  call gl tab n 28 [sfV S q0,oV h] []=some (.agg [.lst true .sc [],Zs0,i64 e],[],[]):=by
 obtain⟨d,rfl⟩:=wD hn
 have hH:=hv.hn
 have hA:=hv.va.n
 have hcc:=hv.c
 obtain⟨br,hbr,c2⟩:=@ziv gl (d+11) (by omega) h
 rcases he with ⟨g1,rfl⟩|⟨g1,g2,rfl⟩|⟨g1,g2,g3,rfl⟩|⟨g1,g2,g3,g4,rfl⟩
 . have e1:br=false:=by cases br with|false=>rfl|true=>exact absurd (hbr.1 rfl) g1
   rw[e1]at c2
   rw[zaf (fd:=fd28) rfl]
   simp(disch:=apply zq;omega) only[go_sem,simprocAttr,↓Nat.reduceEqDiff,xx,fd28,m28,c2]
 all_goals rw[hbr.2 g1]at c2
 . have c3:=@qcm gl (d+11) (by omega) false sA S.A (.inr rfl) (by omega) h.tn g2
   rw[zaf (fd:=fd28) rfl]
   simp(disch:=apply zq;omega) only[go_sem,simprocAttr,↓Nat.reduceEqDiff,xx,fd28,m28,c2,c3]
 all_goals
  obtain⟨k,hk,hkt⟩:=g2
  have c3:=@zpi gl (d+11) (by omega) false sA S.A (.inr rfl) hv.va k hk h.tn hkt
 . obtain⟨j,hj,e⟩:=g3
   have c4:=@z06 gl (d+11) (by omega) false sO S.H (.inr rfl) (by omega) (zd1 hv.ho) j hj
   rw[e]at c4
   rw[zaf (fd:=fd28) rfl]
   simp(disch:=apply zq;omega) only[go_sem,simprocAttr,↓Nat.reduceEqDiff,xx,fd28,m28,c2,c3,c4]
 . have c4:=@zvk gl (d+11) (by omega) false sO S.H (.inr rfl) (by omega) h.nm g3
   rw[zaf (fd:=fd28) rfl]
   by_cases g5:S.c<h.sz
   . simp(disch:=apply zq;omega) only[go_sem,simprocAttr,↓Nat.reduceEqDiff,xx,fd28,m28,c2,c3,c4]
   . have g6:=g4.resolve_left g5
     simp(disch:=apply zq;omega) only[go_sem,simprocAttr,↓Nat.reduceEqDiff,xx,fd28,m28,c2,c3,c4,zaa]
set_option maxHeartbeats 4000000 in
theorem qb6 [Nonempty (H.GlR gl)](hn:13<=n){S:Sf}{h:Ob}(hv:VSf S)(ht:Tn S.A)(fr:Free S h) :
  call gl tab n 28 [sfV S q0,oV h] []=some (if vEnd h (vE S h)=0 then .agg [zuc (vE S h),sfV (vE S h).S q0,i64 0]else .agg [.lst true .sc [],Zs0,i64 (vEnd h (vE S h))],[],[]):=by
 obtain⟨d,rfl⟩:=wD hn
 have hH:=hv.hn
 have hA:=hv.va.n
 have hcc:=hv.c
 have hnm:∀i,i<S.H.length->(oat S.H i).nm.length<=5000:=fun i hi=>by have:=(hv.ho i hi).r.nl;omega
 have hi0:=iv_0 hv ht hnm fr.t
 obtain⟨br,hbr,c2⟩:=@ziv gl (d+12) (by omega) h
 rw[hbr.2 fr.r]at c2
 obtain⟨k,hk,hkt⟩:=fr.t
 have c3:=@zpi gl (d+12) (by omega) false sA S.A (.inr rfl) hv.va k hk h.tn hkt
 have c4:=@zvk gl (d+12) (by omega) false sO S.H (.inr rfl) (by omega) h.nm fr.n
 have hsz:=fr.s
 have hl:=fr.l
 have hszr:=fr.r.sz
 have lp:=fun st hst=>@qht gl _ d S h fr.r (by have:=fr.r.nl;omega) hi0.hk hi0 st hst
 have lp1:=fun st hst=>(lp st hst).1
 obtain⟨hiv,hg,hs0,hb0⟩:=(lp (S28A S h (v0 S)) (by simp(disch:=apply zq;omega) only[go_sem,simprocAttr,↓Nat.reduceEqDiff,xx,S28A,v0])).2
 clear lp
 have htl:tot (vE S h).S<=1099511627776:=wB hiv.hv.ht hiv.hv.c.2
 have ht0:0<=tot (vE S h).S:=(zcb hiv.hv.va (wC _)).1
 have hH2:=hiv.hv.hn
 have c1:call gl tab (d+12) 38 [.lst false sA (ac (vE S h).S.A)] []=some (i64 (tot (vE S h).S),[],[]):=@zdh gl (d+12) (by omega) false sA (vE S h).S.A (.inr rfl) hiv.hv.va
 have ho:(vE S h).b=false->(vE S h).o=[]/\(vE S h).w=true:=fun hb=>by rw[hb0 hb];exact⟨rfl,rfl⟩
 have hol:=hiv.ol
 have htk:=zgk (vE S h).o
 simp only[L28,m28]at lp1
 rw[zaf (fd:=fd28) rfl]
 simp(disch:=apply zq;omega) only[go_sem,simprocAttr,↓Nat.reduceEqDiff,xx,fd28,m28,c2,c3,c4,zaa]
 rw[lp1 _ (by simp(disch:=apply zq;omega) only[go_sem,simprocAttr,↓Nat.reduceEqDiff,xx,S28A,v0])]
 have hgn:=zud hg
 have hno:(vE S h).S.c<tot (vE S h).S+h.sz->wls (vE S h) h=[]->_:=fun g1 g2=>@zit gl (d+12) (by omega) (vE S h).S hiv.hv hiv.ht h fr.r hiv.ha g1
 have hnb:wls (vE S h) h=[]->_:=fun g2=>z1b.1 g2
 have lpA:=fun st hst=>@zpy gl _ (d+1) S h (vE S h) hi0.hk hs0 hH2 hiv.nm (vtn (vE S h).S h) st hst
 have lpB:=fun st hst=>@zpx gl _ (d+1) S h (vE S h) hi0.hk hs0 hH2 hiv.nm (vtn (vE S h).S h) st hst
 simp only[L28i,L28,m28]at lpA lpB
 have hc:=hs0.c
 clear lp1 hi0 hb0 hiv hg hs0
 generalize vE S h=v at *
 rw[hc]at hgn hno
 unfold vEnd
 rw[hc]
 cases hb:v.b with
 | true =>
   rw[z9c hb]
   rcases hgn with g|⟨g1,g2⟩
   . rw[if_neg g]
     cases hw:v.w with
     | true =>
       rw[if_pos rfl,if_pos rfl,zuc,if_pos hb]
       generalize tot v.S=t at *
       simp(disch:=apply zq;omega) only[go_sem,simprocAttr,↓Nat.reduceEqDiff,xx,S28B,c1,hw,htk,zaa]
     | false =>
       rw[if_neg (by decide),if_neg (by decide)]
       generalize tot v.S=t at *
       simp(disch:=apply zq;omega) only[go_sem,simprocAttr,↓Nat.reduceEqDiff,xx,S28B,c1,hw]
   . rw[if_pos g1,if_neg (by decide)]
     have hbs:=hnb g2
     have c5:=hno g1 g2
     clear hno hnb lpA
     generalize tot v.S=t at *
     generalize vtn v.S h=tv at *
     generalize rbs v.S tv v.S.H.length=b at *
     rcases c5 with ⟨g5,hte⟩|g5
     . subst hte
       simp(disch:=apply zq;omega) only[go_sem,simprocAttr,↓Nat.reduceEqDiff,xx,S28B,c1,g5]
       rw[lpB _ (by simp(disch:=apply zq;omega) only[go_sem,simprocAttr,↓Nat.reduceEqDiff,xx,zek,S28B])]
       simp(disch:=apply zq;omega) only[go_sem,simprocAttr,↓Nat.reduceEqDiff,xx,zek,zaa]
     . simp(disch:=apply zq;omega) only[go_sem,simprocAttr,↓Nat.reduceEqDiff,xx,S28B,c1,g5]
       rw[lpB _ (by simp(disch:=apply zq;omega) only[go_sem,simprocAttr,↓Nat.reduceEqDiff,xx,zek,S28B])]
       simp(disch:=apply zq;omega) only[go_sem,simprocAttr,↓Nat.reduceEqDiff,xx,zek,zaa]
 | false =>
   obtain⟨ho1,hw⟩:=ho hb
   rw[z9d hb]
   rcases hgn with g|⟨g1,g2⟩
   . rw[if_neg g,if_pos hw,if_pos rfl,zuc,if_neg (by rw[hb];decide)]
     generalize tot v.S=t at *
     simp(disch:=apply zq;omega) only[go_sem,simprocAttr,↓Nat.reduceEqDiff,xx,S28A,c1,hw]
   . rw[if_pos g1,if_neg (by decide)]
     have hbs:=hnb g2
     have c5:=hno g1 g2
     clear hno hnb lpB
     generalize tot v.S=t at *
     generalize vtn v.S h=tv at *
     generalize rbs v.S tv v.S.H.length=b at *
     rcases c5 with ⟨g5,hte⟩|g5
     . subst hte
       simp(disch:=apply zq;omega) only[go_sem,simprocAttr,↓Nat.reduceEqDiff,xx,S28A,c1,g5]
       rw[lpA _ (by simp(disch:=apply zq;omega) only[go_sem,simprocAttr,↓Nat.reduceEqDiff,xx,zel,S28A])]
       simp(disch:=apply zq;omega) only[go_sem,simprocAttr,↓Nat.reduceEqDiff,xx,zel,zaa]
     . simp(disch:=apply zq;omega) only[go_sem,simprocAttr,↓Nat.reduceEqDiff,xx,S28A,c1,g5]
       rw[lpA _ (by simp(disch:=apply zq;omega) only[go_sem,simprocAttr,↓Nat.reduceEqDiff,xx,zel,S28A])]
       simp(disch:=apply zq;omega) only[go_sem,simprocAttr,↓Nat.reduceEqDiff,xx,zel,zaa]
end Go.Proofs.S97
namespace Go.Proofs.S97
open Go Go.Ev Go.Proofs Go.Proofs.S97.Q
variable {gl :Gl} {n:Nat}
open Go.Mp (esN fN MOk)
def il (l:List Ob)(h:Ob)(k i:Nat):List Ob:=if i<=k then l.take i else insO (l.take i) k h
theorem zz3 {l:List Ob}{i:Nat}(hi:i<l.length):l.take (i+1)=l.take i++[oat l i]:=by
 rw[List.take_succ,wG hi];unfold oat;rw[List.getD_eq_getElem?_getD,wG hi];rfl
theorem ql6 {l:List Ob}{h:Ob}{k i:Nat}(hi:i<l.length)(hk:i<k):il l h k (i+1)=il l h k i++[oat l i]:=by
 rw[il,il,if_pos (by omega),if_pos (by omega),zz3 hi]
theorem ql8 {l:List Ob}{h:Ob}{k:Nat}(hk:k<l.length):il l h k (k+1)=il l h k k++[h]++[oat l k]:=by
 have hl:(l.take k).length=k:=by simp;omega
 rw[il,il,if_neg (by omega),if_pos (wC _),zz3 hk,insO]
 have e1:(l.take k++[oat l k]).take k=l.take k:=by
  conv=>lhs;arg 1;rw[<-hl]
  exact List.take_left
 have e2:(l.take k++[oat l k]).drop k=[oat l k]:=by
  conv=>lhs;arg 1;rw[<-hl]
  exact List.drop_left
 rw[e1,e2,wH];rfl
theorem ql7 {l:List Ob}{h:Ob}{k i:Nat}(hi:i<l.length)(hk:k<i):il l h k (i+1)=il l h k i++[oat l i]:=by
 have hl:(l.take i).length=i:=by simp;omega
 rw[il,il,if_neg (by omega),if_neg (by omega),zz3 hi,insO,insO,List.take_append_of_le_length (by omega),List.drop_append_of_le_length (by omega)]
 rw[wH];rfl
theorem qab {l:List Ob}{h:Ob}{k i:Nat}(hi:i<=l.length):(il l h k i).length=if i<=k then i else i+1:=by
 rw[il]
 split
 . simp;omega
 . rw[ze0 (by rw[wK];omega),wK];omega
theorem il_0 (l:List Ob)(h:Ob)(k:Nat):il l h k 0=[]:=by rw[il,if_pos (Nat.zero_le _)];rfl
theorem qio {l:List Ob}{h:Ob}{k:Nat}(hk:k<=l.length):(if k<l.length then il l h k l.length else il l h k l.length++[h])=insO l k h:=by
 rw[il]
 by_cases h1:k<l.length
 . rw[if_pos h1,if_neg (by omega),wJ]
 . have e:k=l.length:=by omega
   rw[if_neg h1,if_pos (by omega),e,insO,wJ,List.drop_length]
abbrev shD :Sh:=.st [shB,.sc,.sc]
abbrev Zd0 :AV:=.agg [Zs0,.lst true .sc [],i64 0]
def L9a :MC:=match m9 with| .seq _ (.seq _ (.seq _ (.seq _ (.seq _ (.seq _ (.seq (.seq _ (.block _ (.loop _ b))) _))))))=>b|_=>.skip
def S9a (S:Sf)(h:Ob)(G:AV)(k i:Nat):St :=
 ⟨[.set 9 (i64 i),.set 8 (.bool (decide (k<i))),.set 7 (.sl 5007 [] 0 (il S.H h k i).length),.set 6 (.ptr 6 []),.set 5 (.ptr 5 []),.set 4 (.ptr 4 []),.set 3 (.ptr 3 [])],
   [(6,.fix shB (sfV S q0)),(5,.fix shR (.agg [G,sfV S q0,i64 0])),(4,.fix shD Zd0),(3,.fix sO (oV h)),(5007,.grow sO (hs (il S.H h k i)))]⟩
theorem qlq {a b:List UInt8}(h:Bl.lt a b=true):Bl.lt b a=false:=by
 cases h':Bl.lt b a with
 | false=>rfl
 | true=>have:=Bl.trans h h';rw[Bl.irrefl]at this;cases this
set_option maxHeartbeats 1000000 in
theorem qga {d:Nat}{S:Sf}{h:Ob}{G:AV}(hl:S.H.length<=4096){k:Nat}(hp:Pn S.H h.nm k)(hn:¬hasN S h.nm)(i:Nat)(hi:i<S.H.length) :
  za1 [.slot 3,.slot 4,.slot 5,.slot 6,.own 7 5007 sO,.slot 8,.slot 9,.key 3,.key 4,.key 5,.key 6] (evC gl (call gl tab d) L9a (S9a S h G k i))=some (S9a S h G k (i+1)):=by
 have hx:=zc7 hi
 have hlen:=qab (h:=h) (k:=k) (show i<=S.H.length by omega)
 have hl1:(il S.H h k i).length<=4097:=by rw[hlen];split<;>omega
 have hlim:=zjc (show(il S.H h k i).length<=8192 by omega)
 have hap:=zg9 (il S.H h k i) (oat S.H i)
 have htk:=ze2 (il S.H h k i) (oV (oat S.H i))
 unfold S9a
 rcases Nat.lt_trichotomy i k with h1|h1|h1
 . have e:=qlq (hp.lo i h1)
   rw[ql6 hi h1,decide_eq_false (show ¬k<i by omega),decide_eq_false (show ¬k<i+1 by omega),wE,wF]
   generalize il S.H h k i=w at *
   generalize oat S.H i=o at *
   simp(disch:=apply zq;omega) only[go_sem,simprocAttr,↓Nat.reduceEqDiff,xx,L9a,m9,zaa,hx,e,hap,htk,hlim,zwx,oV]
 . subst h1
   have e:Bl.lt h.nm (oat S.H i).nm=true:=by
    rcases Bl.tri (oat S.H i).nm h.nm with h2|h2|h2
    . have:=hp.hi i (wC _) hi;rw[h2]at this;cases this
    . exact absurd ⟨i,hi,h2⟩ hn
    . exact h2
   have hap1:=zg9 (il S.H h i i) h
   have htk1:=ze2 (il S.H h i i) (oV h)
   have hap2:=zg9 (il S.H h i i++[h]) (oat S.H i)
   have htk2:=ze2 (il S.H h i i++[h]) (oV (oat S.H i))
   have hlim2:=zjc (show(il S.H h i i++[h]).length<=8192 by rw[wE,wF];omega)
   rw[wE,wF]at htk2 hlim2
   rw[ql8 hi,decide_eq_false (show ¬i<i by omega),decide_eq_true (show i<i+1 by omega),wE,wF,wE,wF]
   generalize il S.H h i i=w at *
   generalize oat S.H i=o at *
   rw[hap2,hap1]
   rw[hap1]at htk2
   simp(disch:=apply zq;omega) only[go_sem,simprocAttr,↓Nat.reduceEqDiff,xx,L9a,m9,zaa,hx,e,htk1,htk2,hlim,hlim2,zwx,oV,wE,List.length_cons,List.length_nil]
 . rw[ql7 hi h1,decide_eq_true (show k<i by omega),decide_eq_true (show k<i+1 by omega),wE,wF]
   generalize il S.H h k i=w at *
   generalize oat S.H i=o at *
   simp(disch:=apply zq;omega) only[go_sem,simprocAttr,↓Nat.reduceEqDiff,xx,L9a,m9,zaa,hx,hap,htk,hlim,oV]
end Go.Proofs.S97
