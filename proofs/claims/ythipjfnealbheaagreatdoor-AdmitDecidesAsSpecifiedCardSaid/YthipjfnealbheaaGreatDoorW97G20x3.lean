/-
  Chapter 17: what must go. No condition.
-/
import Derived.Test.YthipjfnealbheaaGreatDoorW97G19x3
set_option linter.all false
open Int renaming le_trans->wB
open Nat renaming exists_eq_add_of_le'->wC,le_refl->wD
open List renaming getElem?_eq_getElem->wE,take_length->wF
namespace Go.Proofs.S97
open Go Go.Ev Go.Proofs Go.Proofs.S97.Q
variable {gl :Gl} {n:Nat}
open Go.Mp (esN fN MOk)
noncomputable def runV (h:Ob):Nat->Vt->Vt
 | 0,v=>v
 | k+1,v=>if goV h v=true then runV h k (nxt h v)else v
theorem zly {h:Ob}{v:Vt}(hg:goV h v=false):∀k,runV h k v=v
 | 0=>rfl
 | k+1=>by rw[runV,if_neg (by rw[hg];decide)]
theorem zjs {h:Ob}{v:Vt}(hg:goV h v=true)(k:Nat):runV h (k+1) v=runV h k (nxt h v):=by rw[runV,if_pos hg]
theorem z7q {h:Ob}{v:Vt}(hg:goV h v=true):v.S.c<tot v.S+h.sz/\wls v h≠[]:=by
 unfold goV at hg
 rw[Bool.and_eq_true,decide_eq_true_eq,decide_eq_true_eq]at hg
 exact hg
theorem zud {h:Ob}{v:Vt}(hg:goV h v=false):¬v.S.c<tot v.S+h.sz\/(v.S.c<tot v.S+h.sz/\wls v h=[]):=by
 by_cases h1:v.S.c<tot v.S+h.sz
 . refine .inr ⟨h1,Classical.byContradiction fun h2=> ?_⟩
   unfold goV at hg
   rw[Bool.and_eq_false_iff,decide_eq_false_iff_not,decide_eq_false_iff_not]at hg
   rcases hg with hg|hg
   . exact hg h1
   . exact hg h2
 . exact .inl h1
theorem qjk {d:Nat}{h:Ob}(hr:ROk h){fh fl:Bool}{mh:Sh}{v:Vt}(hi:IV h v)(hf:¬v.S.c<tot v.S+h.sz):isEx (evC gl (call gl tab (d+14)) L37 (S37A h fh fl mh v))=true:=by
 have htl:tot v.S<=1099511627776:=wB hi.hv.ht hi.hv.c.2
 have ht0:0<=tot v.S:=(zcb hi.hv.va (wD _)).1
 have hsz:=hr.sz
 have hcc:=hi.hv.c
 unfold S37A
 generalize tot v.S=t at *
 simp(disch:=apply zq;omega) only[go_sem,simprocAttr,↓Nat.reduceEqDiff,xx,L37,m22]
set_option maxHeartbeats 2000000 in
theorem qhg {d:Nat}{h:Ob}(hr:ROk h){fh fl:Bool}{mh:Sh}{v:Vt}(hi:IV h v)(hmh:Mk v.S.H mh sO)(hf:v.S.c<tot v.S+h.sz)(hw:wls v h=[]):isEx (evC gl (call gl tab (d+14)) L37 (S37A h fh fl mh v))=true:=by
 have htl:tot v.S<=1099511627776:=wB hi.hv.ht hi.hv.c.2
 have ht0:0<=tot v.S:=(zcb hi.hv.va (wD _)).1
 have hsz:=hr.sz
 have hcc:=hi.hv.c
 have c1:=@zlk gl (d+14) (by omega) v.S hi.hv hi.ht h hr hi.ha hf
 have c2:=@zvb gl (d+14) (by omega) v.S ⟨false,fh,fl,sA,mh⟩ ⟨.inr rfl,hmh⟩ (by have:=hi.hv.hn;omega) (vtn v.S h) hw (tot v.S) v.m
 have hc1:(call gl tab (d+14) 54 [i64 v.S.c,.lst false sA (ac v.S.A),i64 h.tn,i64 h.sz] []=some (.tup [i64 0,i64 160],[],[])/\vtn v.S h=h.tn)\/call gl tab (d+14) 54 [i64 v.S.c,.lst false sA (ac v.S.A),i64 h.tn,i64 h.sz] []=some (.tup [i64 (vtn v.S h),i64 0],[],[]):=by
  by_cases ho:own v.S h
  . left
    refine⟨?_,by rw[vtn,if_pos ho]⟩
    unfold own at ho
    rw[if_pos ho]at c1;exact c1
  . right
    have:vtn v.S h=(bst v.S.A (fgs v.S h) (idxT v.S.A h.tn) v.S.A.length).1:=by rw[vtn,if_neg ho]
    rw[this]
    unfold own at ho
    rw[if_neg ho]at c1;exact c1
 clear c1
 unfold S37A
 generalize vtn v.S h=t at *
 rcases hc1 with ⟨c1,ht⟩|c1
 . rw[ht]at c2
   simp(disch:=apply zq;omega) only[go_sem,simprocAttr,↓Nat.reduceEqDiff,xx,L37,m22,c1,c2]
 . simp(disch:=apply zq;omega) only[go_sem,simprocAttr,↓Nat.reduceEqDiff,xx,L37,m22,c1,c2]
theorem qjj {d:Nat}{h:Ob}(hr:ROk h){fh fl:Bool}{mh:Sh}{v:Vt}(hi:IV h v)(hf:¬v.S.c<tot v.S+h.sz):isEx (evC gl (call gl tab (d+14)) L37 (S37B h fh fl mh v))=true:=by
 have htl:tot v.S<=1099511627776:=wB hi.hv.ht hi.hv.c.2
 have ht0:0<=tot v.S:=(zcb hi.hv.va (wD _)).1
 have hsz:=hr.sz
 have hcc:=hi.hv.c
 unfold S37B
 generalize tot v.S=t at *
 simp(disch:=apply zq;omega) only[go_sem,simprocAttr,↓Nat.reduceEqDiff,xx,L37,m22]
set_option maxHeartbeats 2000000 in
theorem qhf {d:Nat}{h:Ob}(hr:ROk h){fh fl:Bool}{mh:Sh}{v:Vt}(hi:IV h v)(hf:v.S.c<tot v.S+h.sz)(hw:wls v h=[]):isEx (evC gl (call gl tab (d+14)) L37 (S37B h fh fl mh v))=true:=by
 have htl:tot v.S<=1099511627776:=wB hi.hv.ht hi.hv.c.2
 have ht0:0<=tot v.S:=(zcb hi.hv.va (wD _)).1
 have hsz:=hr.sz
 have hcc:=hi.hv.c
 have c1:=@zlk gl (d+14) (by omega) v.S hi.hv hi.ht h hr hi.ha hf
 have c2:=@zva gl (d+14) (by omega) v.S ⟨false,fh,fl,sA,sO⟩ [oV0] ⟨.inr rfl,(.inr rfl)⟩ (by have:=hi.hv.hn;omega) (vtn v.S h) hw (tot v.S) v.m
 have hc1:(call gl tab (d+14) 54 [i64 v.S.c,.lst false sA (ac v.S.A),i64 h.tn,i64 h.sz] []=some (.tup [i64 0,i64 160],[],[])/\vtn v.S h=h.tn)\/call gl tab (d+14) 54 [i64 v.S.c,.lst false sA (ac v.S.A),i64 h.tn,i64 h.sz] []=some (.tup [i64 (vtn v.S h),i64 0],[],[]):=by
  by_cases ho:own v.S h
  . left
    refine⟨?_,by rw[vtn,if_pos ho]⟩
    unfold own at ho
    rw[if_pos ho]at c1;exact c1
  . right
    have:vtn v.S h=(bst v.S.A (fgs v.S h) (idxT v.S.A h.tn) v.S.A.length).1:=by rw[vtn,if_neg ho]
    rw[this]
    unfold own at ho
    rw[if_neg ho]at c1;exact c1
 clear c1
 unfold S37B
 generalize vtn v.S h=t at *
 rcases hc1 with ⟨c1,ht⟩|c1
 . rw[ht]at c2
   simp(disch:=apply zq;omega) only[go_sem,simprocAttr,↓Nat.reduceEqDiff,xx,L37,m22,c1,c2]
 . simp(disch:=apply zq;omega) only[go_sem,simprocAttr,↓Nat.reduceEqDiff,xx,L37,m22,c1,c2]
def v0 (S:Sf):Vt:=⟨S,([],0),[],true,false⟩
def SV (h:Ob)(fh fl:Bool)(mh:Sh)(v:Vt):St:=if v.b=true then S37B h fh fl mh v else S37A h fh fl mh v
theorem SV_t {h:Ob}{fh fl:Bool}{mh:Sh}{v:Vt}(e:v.b=true):SV h fh fl mh v=S37B h fh fl mh v:=by rw[SV,if_pos e]
theorem SV_f {h:Ob}{fh fl:Bool}{mh:Sh}{v:Vt}(e:v.b=false):SV h fh fl mh v=S37A h fh fl mh v:=by rw[SV,if_neg (by rw[e];decide)]
theorem qhq [Nonempty (H.GlK gl)]{d:Nat}{h:Ob}(hr:ROk h)(hhn:h.nm.length<=5000){fh fl:Bool}{mh:Sh}{S:Sf}(hi:IV h (v0 S))(hmh:Mk S.H mh sO) :
  ∃v,IV h v/\goV h v=false/\v=runV h S.H.length (v0 S)/\(v.b=false->v=v0 S)/\v.S.c=S.c/\∀st,zcr [.slot 0,.slot 3,.own 8 5008 (.st [.sc,.sc,.sc,.sc]),.slot 9,.key 3,.mv 100000 [0,2] 8002] st=some (S37A h fh fl mh (v0 S))->iter (evC gl (call gl tab (d+14)) L37) [.slot 0,.slot 3,.own 8 5008 (.st [.sc,.sc,.sc,.sc]),.slot 9,.key 3,.mv 100000 [0,2] 8002] LF st=evC gl (call gl tab (d+14)) L37 (SV h fh fl mh v):=by
 obtain⟨v,⟨h1,h2,h3,h4⟩,hg,hit⟩:=zfu (f:=evC gl (call gl tab (d+14)) L37) (ks:=[.slot 0,.slot 3,.own 8 5008 (.st [.sc,.sc,.sc,.sc]),.slot 9,.key 3,.mv 100000 [0,2] 8002]) (SV h fh fl mh)
  (fun v=>IV h v/\(v.b=false->v=v0 S)/\runV h v.S.H.length v=runV h S.H.length (v0 S)/\v.S.c=S.c) (fun v=>v.S.H.length) (nxt h) (goV h) (a0:=v0 S) (by have:=hi.hv.hn;unfold LF;show S.H.length<_;have h2:(v0 S).S.H.length=S.H.length:=rfl;omega)
  ⟨hi,fun _=>rfl,rfl,rfl⟩
  (fun v ⟨h1,h2,h3,h4⟩ hg=>by
    obtain⟨g1,g2⟩:=z7q hg
    have hl:=zi9 h1 g2
    refine⟨?_,⟨zmo h1 g2,(fun h=>by cases h),?_,h4⟩,by show(nxt h v).S.H.length<v.S.H.length;omega⟩
    . rw[SV_t (show(nxt h v).b=true from rfl)]
      cases hb:v.b with
      | true=>rw[SV_t hb];exact qbk hr hhn h1 g1 g2
      | false =>
        rw[SV_f hb]
        have e:=h2 hb
        exact qbl hr hhn h1 (by rw[e];exact hmh) g1 g2
    . rw[<-h3,<-hl,zjs hg])
  (fun v ⟨h1,h2,h3,h4⟩ hg=>by
    cases hb:v.b with
    | true =>
      rw[SV_t hb]
      rcases zud hg with g|⟨g1,g2⟩
      . exact qjj hr h1 g
      . exact qhf hr h1 g1 g2
    | false =>
      rw[SV_f hb]
      rcases zud hg with g|⟨g1,g2⟩
      . exact qjk hr h1 g
      . have e:=h2 hb
        exact qhg hr h1 (by rw[e];exact hmh) g1 g2)
 refine⟨v,h1,hg,?_,h2,h4,fun st hc=>hit st (by rw[SV_f rfl];exact hc)⟩
 rw[<-h3,zly hg]
end Go.Proofs.S97
namespace Go.Proofs.S97
open Go Go.Ev Go.Proofs Go.Proofs.S97.Q
variable {gl :Gl} {n:Nat}
open Go.Mp (esN fN MOk)
def hasT (S:Sf)(t:Int):Prop:=∃k,k<S.A.length/\(aat S.A k).t=t
def hasN (S:Sf)(x:List UInt8):Prop:=∃j,j<S.H.length/\(oat S.H j).nm=x
def vErr (S:Sf)(h:Ob)(e:Int):Prop :=
 (¬ROk h/\e=1)\/(ROk h/\¬hasT S h.tn/\e=5)\/(ROk h/\hasT S h.tn/\hasN S h.nm/\e=6)\/(ROk h/\hasT S h.tn/\¬hasN S h.nm/\(S.c<h.sz\/4096<=S.H.length)/\e=2)
theorem qeo :esN []=[]:=rfl
theorem zp3 {S:Sf}(hs:Srt S.H){x:List UInt8}{k:Nat}(hp:Pn S.H x k):isAt S.H x k=true↔hasN S x:=by
 unfold isAt
 rw[Bool.and_eq_true,decide_eq_true_eq,decide_eq_true_eq]
 constructor
 . rintro ⟨h1,h2⟩;exact⟨k,h1,h2⟩
 . rintro ⟨j,h1,h2⟩
   have e:k=j:=by
    rcases Nat.lt_trichotomy k j with h3|h3|h3
    . have:=hp.hi k (wD _) (by omega)
      have h4:=hs k j h3 h1
      rw[h2,this]at h4;cases h4
    . exact h3
    . have:=hp.lo j h3;rw[h2,Bl.irrefl]at this;cases this
   subst e;exact⟨h1,h2⟩
theorem z9g (hn:15<=n){S:Sf}{h:Ob}{fh fl:Bool}{mh:Sh}(hv:VSf S)(hmh:Mk S.H mh sO){e:Int}(he:vErr S h e) :
  call gl tab n 22 [.ptr 100000 [],oV h] [(100000,.fix shX (XA S ⟨false,fh,fl,sA,mh⟩ (tot S))),(100001,.mp [] 0)] =
   some (.tup [.lst true .sc [],i64 e],[(100000,.fix shX (XA S ⟨false,fh,fl,sA,mh⟩ (tot S))),(100001,.mp [] 0)],[]):=by
 obtain⟨d,rfl⟩:=wC hn
 have hH:=hv.hn
 have hA:=hv.va.n
 obtain⟨k,hp,c1⟩:=@zih gl (d+14) (by omega) fh mh S.H hmh (by omega) (zd1 hv.ho) h.nm
 have hat:=zp3 (zd1 hv.ho) hp
 obtain⟨br,hbr,c2⟩:=@zk8 gl (d+14) (by omega) h
 obtain⟨ba,hba,c3⟩:=@qaq gl (d+14) (by omega) false sA S.A (.inr rfl) (by omega) h.tn
 have hcc:=hv.c
 rw[zbl (fd:=fd22) rfl]
 rcases he with ⟨g1,rfl⟩|⟨g1,g2,rfl⟩|⟨g1,g2,g3,rfl⟩|⟨g1,g2,g3,g4,rfl⟩
 . have e1:br=false:=by cases br with|false=>rfl|true=>exact absurd (hbr.1 rfl) g1
   rw[e1]at c2
   simp(disch:=apply zq;omega) only[go_sem,simprocAttr,↓Nat.reduceEqDiff,xx,zf1,fd22,m22,c1,c2]
 . rw[hbr.2 g1]at c2
   have e1:ba=false:=by cases ba with|false=>rfl|true=>exact absurd (hba.1 rfl) g2
   rw[e1]at c3
   simp(disch:=apply zq;omega) only[go_sem,simprocAttr,↓Nat.reduceEqDiff,xx,zf1,fd22,m22,c1,c2,c3]
 . rw[hbr.2 g1]at c2
   rw[hba.2 g2]at c3
   rw[hat.2 g3]at c1
   simp(disch:=apply zq;omega) only[go_sem,simprocAttr,↓Nat.reduceEqDiff,xx,zf1,fd22,m22,c1,c2,c3]
 . rw[hbr.2 g1]at c2
   rw[hba.2 g2]at c3
   have e1:isAt S.H h.nm k=false:=by
    cases hb:isAt S.H h.nm k with
    | false=>rfl
    | true=>exact absurd (hat.1 hb) g3
   rw[e1]at c1
   by_cases g5:S.c<h.sz
   . simp(disch:=apply zq;omega) only[go_sem,simprocAttr,↓Nat.reduceEqDiff,xx,zf1,fd22,m22,c1,c2,c3]
   . have g6:=g4.resolve_left g5
     simp(disch:=apply zq;omega) only[go_sem,simprocAttr,↓Nat.reduceEqDiff,xx,zf1,fd22,m22,c1,c2,c3,zaa]
abbrev qq (fh fl:Bool)(mh:Sh):Fl:=⟨false,fh,fl,sA,mh⟩
def zq1 (cl:Cl)(S:Sf)(h:Ob)(fh fl:Bool)(mh:Sh):Option (AV×Hp×List OB):=cl 22 [.ptr 100000 [],oV h] [(100000,.fix shX (XA S (qq fh fl mh) (tot S))),(100001,.mp [] 0)]
def rOkB (fh fl:Bool)(mh:Sh)(v:Vt):Option (AV×Hp×List OB) :=
 some (.tup [.sl 20000 [] 0 v.o.length,i64 0],[(100000,.fix shX (XR v.S v.S.A (qq fh fl mh) (tot v.S) 20001 v.S.H.length 100001)),(100001,.mp (esN v.m.1) v.m.2)],[.grow sO (hs v.o),.grow sO (hs v.S.H++[oV0])])
def rOkA (fh fl:Bool)(mh:Sh)(S:Sf):Option (AV×Hp×List OB) :=
 some (.tup [.sl 20000 [] 0 0,i64 0],[(100000,.fix shX (XA S (qq fh fl mh) (tot S))),(100001,.mp [] 0)],[.grow sO []])
def rErB (fh fl:Bool)(mh:Sh)(v:Vt)(e:Int):Option (AV×Hp×List OB) :=
 some (.tup [.lst true .sc [],i64 e],[(100000,.fix shX (XR v.S v.S.A (qq fh fl mh) (tot v.S) 20000 v.S.H.length 100001)),(100001,.mp (esN v.m.1) v.m.2)],[.grow sO (hs v.S.H++[oV0])])
def rErA (fh fl:Bool)(mh:Sh)(S:Sf)(e:Int):Option (AV×Hp×List OB) :=
 some (.tup [.lst true .sc [],i64 e],[(100000,.fix shX (XA S (qq fh fl mh) (tot S))),(100001,.mp [] 0)],[])
noncomputable def vEnd (h:Ob)(v:Vt):Int:=open Classical in if v.S.c<tot v.S+h.sz then 160 else if v.w=true then 0 else 170
theorem zu3 [Nonempty (H.GlK gl)](hn:15<=n){S:Sf}{h:Ob}{fh fl:Bool}{mh:Sh}(hi:IV h (v0 S))(hmh:Mk S.H mh sO)(hr:ROk h)(hnm:h.nm.length<=5000)(hnn:¬hasN S h.nm)(hsz:h.sz<=S.c)(hl:S.H.length<4096) :
  ∃v,IV h v/\goV h v=false/\v=runV h S.H.length (v0 S)/\(v.b=false->v=v0 S)/\v.S.c=S.c /\
   zq1 (call gl tab n) S h fh fl mh=if vEnd h v=0 then(if v.b=true then rOkB fh fl mh v else rOkA fh fl mh S)else(if v.b=true then rErB fh fl mh v (vEnd h v)else rErA fh fl mh S (vEnd h v)):=by
 obtain⟨d,rfl⟩:=wC hn
 have hv:VSf S:=hi.hv
 have hH:=hv.hn
 have hA:=hv.va.n
 obtain⟨k,hp,c1⟩:=@zih gl (d+14) (by omega) fh mh S.H hmh (by omega) (zd1 hv.ho) h.nm
 have hat:=zp3 (zd1 hv.ho) hp
 obtain⟨br,hbr,c2⟩:=@zk8 gl (d+14) (by omega) h
 obtain⟨ba,hba,c3⟩:=@qaq gl (d+14) (by omega) false sA S.A (.inr rfl) (by omega) h.tn
 have hcc:=hv.c
 rw[hbr.2 hr]at c2
 rw[hba.2 hi.ha]at c3
 have e1:isAt S.H h.nm k=false:=by
  cases hb:isAt S.H h.nm k with
  | false=>rfl
  | true=>exact absurd (hat.1 hb) hnn
 rw[e1]at c1
 obtain⟨v,hiv,hg,hF,hb0,hvc,hit⟩:=@qhq gl _ d h hr hnm fh fl mh S hi hmh
 have hszr:=hr.sz
 have htl:tot v.S<=1099511627776:=wB hiv.hv.ht hiv.hv.c.2
 have ht0:0<=tot v.S:=(zcb hiv.hv.va (wD _)).1
 have htk:=zye v.S.H [oV0]
 simp only[L37,m22]at hit
 refine⟨v,hiv,hg,hF,hb0,hvc,?_⟩
 unfold zq1
 have non:∀(hf:v.S.c<tot v.S+h.sz),(call gl tab (d+14) 54 [i64 v.S.c,.lst false sA (ac v.S.A),i64 h.tn,i64 h.sz] []=some (.tup [i64 0,i64 160],[],[])/\vtn v.S h=h.tn)\/call gl tab (d+14) 54 [i64 v.S.c,.lst false sA (ac v.S.A),i64 h.tn,i64 h.sz] []=some (.tup [i64 (vtn v.S h),i64 0],[],[]):=fun hf=>by
  have c1:=@zlk gl (d+14) (by omega) v.S hiv.hv hiv.ht h hr hiv.ha hf
  by_cases ho:own v.S h
  . left
    refine⟨?_,by rw[vtn,if_pos ho]⟩
    unfold own at ho
    rw[if_pos ho]at c1;exact c1
  . right
    have:vtn v.S h=(bst v.S.A (fgs v.S h) (idxT v.S.A h.tn) v.S.A.length).1:=by rw[vtn,if_neg ho]
    rw[this]
    unfold own at ho
    rw[if_neg ho]at c1;exact c1
 have tkB:wls v h=[]->_:=fun hw=>@zva gl (d+14) (by omega) v.S (qq fh fl sO) [oV0] ⟨.inr rfl,.inr rfl⟩ (by have:=hiv.hv.hn;omega) (vtn v.S h) hw (tot v.S) v.m
 have tkA:wls v h=[]->Mk v.S.H mh sO->_:=fun hw hm=>@zvb gl (d+14) (by omega) v.S (qq fh fl mh) ⟨.inr rfl,hm⟩ (by have:=hiv.hv.hn;omega) (vtn v.S h) hw (tot v.S) v.m
 rw[zbl (fd:=fd22) rfl]
 simp(disch:=apply zq;omega) only[go_sem,simprocAttr,↓Nat.reduceEqDiff,xx,zf1,fd22,m22,c1,c2,c3,zaa]
 rw[hit _ (by simp(disch:=apply zq;omega) only[go_sem,simprocAttr,↓Nat.reduceEqDiff,xx,S37A,v0,Mp.esN,zc6])]
 cases hb:v.b with
 | true =>
   rw[SV_t hb]
   unfold S37B
   rcases zud hg with g|⟨g1,g2⟩
   . cases hw:v.w with
     | true =>
       have e:vEnd h v=0:=by rw[vEnd,if_neg g,if_pos hw]
       rw[e,if_pos rfl,if_pos rfl,rOkB]
       generalize tot v.S=t at *
       simp(disch:=apply zq;omega) only[go_sem,simprocAttr,↓Nat.reduceEqDiff,xx,hw,zaa,htk]
     | false =>
       have e:vEnd h v=170:=by rw[vEnd,if_neg g,if_neg (by rw[hw];decide)]
       rw[e,if_neg (by decide),if_pos rfl,rErB]
       generalize tot v.S=t at *
       simp(disch:=apply zq;omega) only[go_sem,simprocAttr,↓Nat.reduceEqDiff,xx,hw,zaa,htk]
   . have e:vEnd h v=160:=by rw[vEnd,if_pos g1]
     rw[e,if_neg (by decide),if_pos rfl,rErB]
     have c4:=tkB g2
     clear tkA tkB
     generalize vtn v.S h=t at *
     rcases non g1 with ⟨c5,ht⟩|c5
     . rw[ht]at c4
       simp(disch:=apply zq;omega) only[go_sem,simprocAttr,↓Nat.reduceEqDiff,xx,c4,c5,zaa,htk]
     . simp(disch:=apply zq;omega) only[go_sem,simprocAttr,↓Nat.reduceEqDiff,xx,c4,c5,zaa,htk]
 | false =>
   have hv0:=hb0 hb
   rw[SV_f hb]
   have hmv:Mk v.S.H mh sO:=by rw[hv0];exact hmh
   have ew:v.w=true:=by rw[hv0];rfl
   have eo:v.o=[]:=by rw[hv0];rfl
   have em:v.m=([],0):=by rw[hv0];rfl
   have eS:v.S=S:=by rw[hv0];rfl
   unfold S37A
   rcases zud hg with g|⟨g1,g2⟩
   . have e:vEnd h v=0:=by rw[vEnd,if_neg g,if_pos ew]
     rw[e,if_pos rfl,if_neg (by decide),rOkA]
     rw[ew,eo,em,eS]
     rw[eS]at g htl ht0
     generalize tot S=t at *
     simp(disch:=apply zq;omega) only[go_sem,simprocAttr,↓Nat.reduceEqDiff,xx,zc6,Mp.esN]
   . have e:vEnd h v=160:=by rw[vEnd,if_pos g1]
     rw[e,if_neg (by decide),if_neg (by decide),rErA]
     have c4:=tkA g2 hmv
     have c6:=non g1
     clear tkA tkB non
     generalize vtn v.S h=t at *
     rw[eS]at c4 c6 g1 htl ht0
     rw[em]at c4
     simp only[qeo]at c4
     rw[ew,eo,em,eS]
     rcases c6 with ⟨c5,ht⟩|c5
     . rw[ht]at c4
       simp(disch:=apply zq;omega) only[go_sem,simprocAttr,↓Nat.reduceEqDiff,xx,c4,c5,zc6,Mp.esN]
     . simp(disch:=apply zq;omega) only[go_sem,simprocAttr,↓Nat.reduceEqDiff,xx,c4,c5,zc6,Mp.esN]
end Go.Proofs.S97
namespace Go.Proofs.S97
open Go Go.Ev Go.Proofs Go.Proofs.S97.Q
variable {gl :Gl} {n:Nat}
open Go.Mp (esN fN MOk)
theorem zso (h:1<=n){f:Bool}{m:Sh}{l:List Ob}(hm:Mk l m sO)(hl:l.length<=8192):call gl tab n 26 [.lst f m (hs l)] []=some (.sl 20000 [] 0 l.length,[],[.grow sO (hs l)]):=by
 rcases hm with rfl|rfl
 . obtain⟨d,rfl⟩:=wC h
   rw[zgq (fd:=fd26) rfl rfl]
   have h1:0<=LIM:=by unfold LIM;omega
   simp[zjj,zc6,h1,Sh.beq,Sh.beqs]
 . exact zm5 h hl
def insO (l:List Ob)(k:Nat)(o:Ob):List Ob:=l.take k++o::l.drop k
theorem qdv (l:List Ob)(k:Nat)(o:Ob):insL (hs l) k (oV o)=hs (insO l k o):=by simp[insL,hs,insO]
theorem ze0 {l:List Ob}{k:Nat}(hk:k<=l.length)(o:Ob):(insO l k o).length=l.length+1:=by simp[insO];omega
theorem z2s (h:1<=n){l:List Ob}(hl:l.length<=8192){k:Nat}(hk:k<=l.length)(o:Ob) :
  call gl tab n 25 [.sl 100000 [] 0 l.length,i64 k,.sl 100001 [] 0 1] [(100000,.grow sO (hs l)),(100001,.grow sO [oV o])] =
   some (.sl 20000 [] 0 (l.length+1),[(100000,.dead),(100001,.grow sO [oV o])],[.grow sO (hs (insO l k o))]):=by
 obtain⟨d,rfl⟩:=wC h
 rw[zgq (fd:=fd25) rfl rfl]
 have hlim:l.length+1<=LIM:=by unfold LIM;omega
 have hi:=qdv l k o
 simp[zp4,zaa,Sh.beq,Sh.beqs,hlim,hk,hi]
def nms (l:List Ob):List AV:=l.map fun o=>.str o.nm
theorem zbj (l:List Ob):(nms l).length=l.length:=by simp[nms]
theorem qhj {l:List Ob}{i:Nat}(h:i<l.length):nms (l.take (i+1))=nms (l.take i)++[.str (oat l i).nm]:=by
 unfold nms oat
 rw[List.take_succ,List.map_append,wE h,List.getD_eq_getElem?_getD,wE h];rfl
theorem zvt (l:List Ob)(v:AV){k:Nat}(h:l.length=k):(nms l++[v]).take (k+1)=nms l++[v]:=by rw[<-h,<-zbj];exact List.take_of_length_le (by simp)
def L42 :MC:=match m23 with| .seq _ (.seq _ (.seq (.seq _ (.block _ (.loop _ b))) _))=>b|_=>.skip
def S42 (f:Bool)(m:Sh)(l:List Ob)(i:Nat):St:=⟨[.set 8 (i64 i),.set 7 (i64 l.length),.set 6 (.lst f m (hs l)),.set 3 (.sl 5003 [] 0 i)],[(5003,.grow .sc (nms (l.take i)))]⟩
theorem zi7 (h:1<=n){f:Bool}{m:Sh}{l:List Ob}(hm:Mk l m sO)(hl:l.length<=8192):call gl tab n 23 [.lst f m (hs l)] []=some (.sl 20000 [] 0 l.length,[],[.grow .sc (nms l)]):=by
 obtain⟨d,rfl⟩:=wC h
 have hst:∀i,i<l.length->za1 [.own 3 5003 .sc,.slot 6,.slot 7,.slot 8] (evC gl (call gl tab d) L42 (S42 f m l i))=some (S42 f m l (i+1)):=fun i hi=>by
  have hx:=zc7 hi
  obtain rfl:=hm.eq hi
  have e:=qhj hi
  have hlt:(l.take i).length=i:=by rw[List.length_take];omega
  have e2:=zvt (l.take i) (.str (oat l i).nm) hlt
  have e3:(nms (l.take i)).length=i:=by rw[zbj,hlt]
  have hlim:i+1<=LIM:=by unfold LIM;omega
  simp(disch:=apply zq;omega) only[go_sem,simprocAttr,↓Nat.reduceEqDiff,xx,L42,m23,S42,zaa,hx,e,e2,e3,hlim]
 have e0:nms []=[]:=rfl
 have ee:nms (l.take l.length)=nms l:=by rw[wF]
 have e4:(nms l).take l.length=nms l:=by rw[<-zbj];exact wF
 simp only[L42,m23]at hst
 rw[zaf (fd:=fd23) rfl]
 simp(disch:=apply zq;omega) only[go_sem,simprocAttr,↓Nat.reduceEqDiff,xx,fd23,m23,zaa]
 rw[zaj (S42 f m l) l.length (by unfold LF;omega)]
 . simp(disch:=apply zq;omega) only[go_sem,simprocAttr,↓Nat.reduceEqDiff,xx,S42,zaa,ee,e4,zbj]
 . simp(disch:=apply zq;omega) only[go_sem,simprocAttr,↓Nat.reduceEqDiff,xx,S42,zaa,e0]
 . exact hst
 . simp(disch:=apply zq;omega) only[go_sem,simprocAttr,↓Nat.reduceEqDiff,xx,S42,zaa]
def adm (S:Sf)(h:Ob)(k j:Nat):Sf:=⟨S.c,updA S.A j h.sz,insO S.H k h,S.w,S.s,S.a,S.L⟩
theorem zw5 (hn:16<=n){S:Sf}{h:Ob}{fh fl:Bool}{mh:Sh}(hv:VSf S)(hmh:Mk S.H mh sO){e:Int}(he:vErr S h e) :
  call gl tab n 8 [sfV S (qq fh fl mh),oV h] []=some (.tup [sfV S (qq fh fl mh),.lst true .sc [],i64 e],[],[]):=by
 obtain⟨d,rfl⟩:=wC hn
 have c1:=@zjm gl (d+15) (by omega) S (qq fh fl mh) ⟨.inr rfl,hmh⟩ hv.va
 have c2:=@z9g gl (d+15) (by omega) S h fh fl mh hv hmh e he
 have hne:(e != 0)=true:=by
  rcases he with ⟨_,rfl⟩|⟨_,_,rfl⟩|⟨_,_,_,rfl⟩|⟨_,_,_,_,rfl⟩<;>rfl
 rw[zaf (fd:=fd8) rfl]
 simp(disch:=apply zq;omega) only[go_sem,simprocAttr,↓Nat.reduceEqDiff,xx,fd8,m8,c1,c2,hne]
end Go.Proofs.S97
