/-
  Chapter 17: what must go. No condition.
-/
import Derived.Test.YthipjfnealbheaaDoorW17G24x5
set_option linter.all false
open Int renaming le_trans->wB
open Nat renaming le_refl->wC,exists_eq_add_of_le'->wD
namespace Go.Proofs.S17
open Go Go.Ev Go.Proofs Go.Proofs.S17.Q
variable {gl :Gl} {n:Nat}
open Go.Mp (esN fN MOk)
noncomputable def runV (h:Ob):Nat->Vt->Vt
 | 0,v=>v
 | k+1,v=>if goV h v=true then runV h k (nxt h v)else v
theorem zpr {h:Ob}{v:Vt}(hg:goV h v=false):∀k,runV h k v=v
 | 0=>rfl
 | k+1=>by rw[runV,if_neg (by rw[hg];decide)]
theorem zr0 {h:Ob}{v:Vt}(hg:goV h v=true)(k:Nat):runV h (k+1) v=runV h k (nxt h v):=by rw[runV,if_pos hg]
theorem qha {h:Ob}{v:Vt}(hg:goV h v=true):v.S.c<tot v.S+h.sz/\wls v h≠[]:=by
 unfold goV at hg
 rw[Bool.and_eq_true,decide_eq_true_eq,decide_eq_true_eq]at hg
 exact hg
theorem z5a {h:Ob}{v:Vt}(hg:goV h v=false):¬v.S.c<tot v.S+h.sz\/(v.S.c<tot v.S+h.sz/\wls v h=[]):=by
 by_cases h1:v.S.c<tot v.S+h.sz
 . refine .inr ⟨h1,Classical.byContradiction fun h2=> ?_⟩
   unfold goV at hg
   rw[Bool.and_eq_false_iff,decide_eq_false_iff_not,decide_eq_false_iff_not]at hg
   rcases hg with hg|hg
   . exact hg h1
   . exact hg h2
 . exact .inl h1
theorem qfl {d:Nat}{h:Ob}(hr:ROk h){fh fl:Bool}{mh:Sh}{v:Vt}(hi:IV h v)(hf:¬v.S.c<tot v.S+h.sz):isEx (evC gl (call gl tab (d+14)) L37 (S37A h fh fl mh v))=true:=by
 have htl:tot v.S<=1099511627776:=wB hi.hv.ht hi.hv.c.2
 have ht0:0<=tot v.S:=(zc2 hi.hv.va (wC _)).1
 have hsz:=hr.sz
 have hcc:=hi.hv.c
 unfold S37A
 generalize tot v.S=t at *
 simp(disch:=apply zq;omega) only[go_sem,simprocAttr,↓Nat.reduceEqDiff,xx,L37,m37]
set_option maxHeartbeats 2000000 in
theorem qdn {d:Nat}{h:Ob}(hr:ROk h){fh fl:Bool}{mh:Sh}{v:Vt}(hi:IV h v)(hmh:Mk v.S.H mh sO)(hf:v.S.c<tot v.S+h.sz)(hw:wls v h=[]):isEx (evC gl (call gl tab (d+14)) L37 (S37A h fh fl mh v))=true:=by
 have htl:tot v.S<=1099511627776:=wB hi.hv.ht hi.hv.c.2
 have ht0:0<=tot v.S:=(zc2 hi.hv.va (wC _)).1
 have hsz:=hr.sz
 have hcc:=hi.hv.c
 have c1:=@zki gl (d+14) (by omega) v.S hi.hv hi.ht h hr hi.ha hf
 have c2:=@ztq gl (d+14) (by omega) v.S ⟨false,fh,fl,sA,mh⟩ ⟨.inr rfl,hmh⟩ (by have:=hi.hv.hn;omega) (vtn v.S h) hw (tot v.S) v.m
 have hc1:(call gl tab (d+14) 50 [i64 v.S.c,.lst false sA (ac v.S.A),i64 h.tn,i64 h.sz] []=some (.tup [i64 0,i64 160],[],[])/\vtn v.S h=h.tn)\/call gl tab (d+14) 50 [i64 v.S.c,.lst false sA (ac v.S.A),i64 h.tn,i64 h.sz] []=some (.tup [i64 (vtn v.S h),i64 0],[],[]):=by
  by_cases ho:own v.S h
  . left
    refine⟨?_,by rw[vtn,if_pos ho]⟩
    unfold own at ho
    rw[if_pos ho]at c1;exact c1
  . right
    have:vtn v.S h=(bst v.S.A (fgs v.S h) (idxT v.S.A h.tn) v.S.A.length).1:=by rw[vtn,if_neg ho]
    rw[this]
    unfold own at ho
    rw[if_neg ho]at c1;exact c1
 clear c1
 unfold S37A
 generalize vtn v.S h=t at *
 rcases hc1 with ⟨c1,ht⟩|c1
 . rw[ht]at c2
   simp(disch:=apply zq;omega) only[go_sem,simprocAttr,↓Nat.reduceEqDiff,xx,L37,m37,c1,c2]
 . simp(disch:=apply zq;omega) only[go_sem,simprocAttr,↓Nat.reduceEqDiff,xx,L37,m37,c1,c2]
theorem qfk {d:Nat}{h:Ob}(hr:ROk h){fh fl:Bool}{mh:Sh}{v:Vt}(hi:IV h v)(hf:¬v.S.c<tot v.S+h.sz):isEx (evC gl (call gl tab (d+14)) L37 (S37B h fh fl mh v))=true:=by
 have htl:tot v.S<=1099511627776:=wB hi.hv.ht hi.hv.c.2
 have ht0:0<=tot v.S:=(zc2 hi.hv.va (wC _)).1
 have hsz:=hr.sz
 have hcc:=hi.hv.c
 unfold S37B
 generalize tot v.S=t at *
 simp(disch:=apply zq;omega) only[go_sem,simprocAttr,↓Nat.reduceEqDiff,xx,L37,m37]
set_option maxHeartbeats 2000000 in
theorem qdm {d:Nat}{h:Ob}(hr:ROk h){fh fl:Bool}{mh:Sh}{v:Vt}(hi:IV h v)(hf:v.S.c<tot v.S+h.sz)(hw:wls v h=[]):isEx (evC gl (call gl tab (d+14)) L37 (S37B h fh fl mh v))=true:=by
 have htl:tot v.S<=1099511627776:=wB hi.hv.ht hi.hv.c.2
 have ht0:0<=tot v.S:=(zc2 hi.hv.va (wC _)).1
 have hsz:=hr.sz
 have hcc:=hi.hv.c
 have c1:=@zki gl (d+14) (by omega) v.S hi.hv hi.ht h hr hi.ha hf
 have c2:=@ztp gl (d+14) (by omega) v.S ⟨false,fh,fl,sA,sO⟩ [oV0] ⟨.inr rfl,(.inr rfl)⟩ (by have:=hi.hv.hn;omega) (vtn v.S h) hw (tot v.S) v.m
 have hc1:(call gl tab (d+14) 50 [i64 v.S.c,.lst false sA (ac v.S.A),i64 h.tn,i64 h.sz] []=some (.tup [i64 0,i64 160],[],[])/\vtn v.S h=h.tn)\/call gl tab (d+14) 50 [i64 v.S.c,.lst false sA (ac v.S.A),i64 h.tn,i64 h.sz] []=some (.tup [i64 (vtn v.S h),i64 0],[],[]):=by
  by_cases ho:own v.S h
  . left
    refine⟨?_,by rw[vtn,if_pos ho]⟩
    unfold own at ho
    rw[if_pos ho]at c1;exact c1
  . right
    have:vtn v.S h=(bst v.S.A (fgs v.S h) (idxT v.S.A h.tn) v.S.A.length).1:=by rw[vtn,if_neg ho]
    rw[this]
    unfold own at ho
    rw[if_neg ho]at c1;exact c1
 clear c1
 unfold S37B
 generalize vtn v.S h=t at *
 rcases hc1 with ⟨c1,ht⟩|c1
 . rw[ht]at c2
   simp(disch:=apply zq;omega) only[go_sem,simprocAttr,↓Nat.reduceEqDiff,xx,L37,m37,c1,c2]
 . simp(disch:=apply zq;omega) only[go_sem,simprocAttr,↓Nat.reduceEqDiff,xx,L37,m37,c1,c2]
def v0 (S:Sf):Vt:=⟨S,([],0),[],true,false⟩
def SV (h:Ob)(fh fl:Bool)(mh:Sh)(v:Vt):St:=if v.b=true then S37B h fh fl mh v else S37A h fh fl mh v
theorem SV_t {h:Ob}{fh fl:Bool}{mh:Sh}{v:Vt}(e:v.b=true):SV h fh fl mh v=S37B h fh fl mh v:=by rw[SV,if_pos e]
theorem SV_f {h:Ob}{fh fl:Bool}{mh:Sh}{v:Vt}(e:v.b=false):SV h fh fl mh v=S37A h fh fl mh v:=by rw[SV,if_neg (by rw[e];decide)]
theorem qdu [Nonempty (H.GlK gl)]{d:Nat}{h:Ob}(hr:ROk h)(hhn:h.nm.length<=5000){fh fl:Bool}{mh:Sh}{S:Sf}(hi:IV h (v0 S))(hmh:Mk S.H mh sO) :
  ∃v,IV h v/\goV h v=false/\v=runV h S.H.length (v0 S)/\(v.b=false->v=v0 S)/\v.S.c=S.c/\∀st,zde [.slot 0,.slot 3,.own 8 5008 (.st [.sc,.sc,.sc,.sc]),.slot 9,.key 3,.mv 100000 [0,2] 8002] st=some (S37A h fh fl mh (v0 S))->iter (evC gl (call gl tab (d+14)) L37) [.slot 0,.slot 3,.own 8 5008 (.st [.sc,.sc,.sc,.sc]),.slot 9,.key 3,.mv 100000 [0,2] 8002] LF st=evC gl (call gl tab (d+14)) L37 (SV h fh fl mh v):=by
 obtain⟨v,⟨h1,h2,h3,h4⟩,hg,hit⟩:=zif (f:=evC gl (call gl tab (d+14)) L37) (ks:=[.slot 0,.slot 3,.own 8 5008 (.st [.sc,.sc,.sc,.sc]),.slot 9,.key 3,.mv 100000 [0,2] 8002]) (SV h fh fl mh)
  (fun v=>IV h v/\(v.b=false->v=v0 S)/\runV h v.S.H.length v=runV h S.H.length (v0 S)/\v.S.c=S.c) (fun v=>v.S.H.length) (nxt h) (goV h) (a0:=v0 S) (by have:=hi.hv.hn;unfold LF;show S.H.length<_;have h2:(v0 S).S.H.length=S.H.length:=rfl;omega)
  ⟨hi,fun _=>rfl,rfl,rfl⟩
  (fun v ⟨h1,h2,h3,h4⟩ hg=>by
    obtain⟨g1,g2⟩:=qha hg
    have hl:=zol h1 g2
    refine⟨?_,⟨zsl h1 g2,(fun h=>by cases h),?_,h4⟩,by show(nxt h v).S.H.length<v.S.H.length;omega⟩
    . rw[SV_t (show(nxt h v).b=true from rfl)]
      cases hb:v.b with
      | true=>rw[SV_t hb];exact z79 hr hhn h1 g1 g2
      | false =>
        rw[SV_f hb]
        have e:=h2 hb
        exact z8a hr hhn h1 (by rw[e];exact hmh) g1 g2
    . rw[<-h3,<-hl,zr0 hg])
  (fun v ⟨h1,h2,h3,h4⟩ hg=>by
    cases hb:v.b with
    | true =>
      rw[SV_t hb]
      rcases z5a hg with g|⟨g1,g2⟩
      . exact qfk hr h1 g
      . exact qdm hr h1 g1 g2
    | false =>
      rw[SV_f hb]
      rcases z5a hg with g|⟨g1,g2⟩
      . exact qfl hr h1 g
      . have e:=h2 hb
        exact qdn hr h1 (by rw[e];exact hmh) g1 g2)
 refine⟨v,h1,hg,?_,h2,h4,fun st hc=>hit st (by rw[SV_f rfl];exact hc)⟩
 rw[<-h3,zpr hg]
end Go.Proofs.S17
namespace Go.Proofs.S17
open Go Go.Ev Go.Proofs Go.Proofs.S17.Q
variable {gl :Gl} {n:Nat}
open Go.Mp (esN fN MOk)
def hasT (S:Sf)(t:Int):Prop:=∃k,k<S.A.length/\(aat S.A k).t=t
def hasN (S:Sf)(x:List UInt8):Prop:=∃j,j<S.H.length/\(oat S.H j).nm=x
def vErr (S:Sf)(h:Ob)(e:Int):Prop :=
 (¬ROk h/\e=1)\/(ROk h/\¬hasT S h.tn/\e=5)\/(ROk h/\hasT S h.tn/\hasN S h.nm/\e=6)\/(ROk h/\hasT S h.tn/\¬hasN S h.nm/\(S.c<h.sz\/4096<=S.H.length)/\e=2)
theorem qa0 :esN []=[]:=rfl
theorem zkg {S:Sf}(hs:Srt S.H){x:List UInt8}{k:Nat}(hp:Pn S.H x k):isAt S.H x k=true↔hasN S x:=by
 unfold isAt
 rw[Bool.and_eq_true,decide_eq_true_eq,decide_eq_true_eq]
 constructor
 . rintro ⟨h1,h2⟩;exact⟨k,h1,h2⟩
 . rintro ⟨j,h1,h2⟩
   have e:k=j:=by
    rcases Nat.lt_trichotomy k j with h3|h3|h3
    . have:=hp.hi k (wC _) (by omega)
      have h4:=hs k j h3 h1
      rw[h2,this]at h4;cases h4
    . exact h3
    . have:=hp.lo j h3;rw[h2,Bl.irrefl]at this;cases this
   subst e;exact⟨h1,h2⟩
theorem qb9 (hn:15<=n){S:Sf}{h:Ob}{fh fl:Bool}{mh:Sh}(hv:VSf S)(hmh:Mk S.H mh sO){e:Int}(he:vErr S h e) :
  call gl tab n 37 [.ptr 100000 [],oV h] [(100000,.fix shX (XA S ⟨false,fh,fl,sA,mh⟩ (tot S))),(100001,.mp [] 0)] =
   some (.tup [.lst true .sc [],i64 e],[(100000,.fix shX (XA S ⟨false,fh,fl,sA,mh⟩ (tot S))),(100001,.mp [] 0)],[]):=by
 obtain⟨d,rfl⟩:=wD hn
 have hH:=hv.hn
 have hA:=hv.va.n
 obtain⟨k,hp,c1⟩:=@zgu gl (d+14) (by omega) fh mh S.H hmh (by omega) (zc4 hv.ho) h.nm
 have hat:=zkg (zc4 hv.ho) hp
 obtain⟨br,hbr,c2⟩:=@zj8 gl (d+14) (by omega) h
 obtain⟨ba,hba,c3⟩:=@z7f gl (d+14) (by omega) false sA S.A (.inr rfl) (by omega) h.tn
 have hcc:=hv.c
 rw[zbe (fd:=fd37) rfl]
 rcases he with ⟨g1,rfl⟩|⟨g1,g2,rfl⟩|⟨g1,g2,g3,rfl⟩|⟨g1,g2,g3,g4,rfl⟩
 . have e1:br=false:=by cases br with|false=>rfl|true=>exact absurd (hbr.1 rfl) g1
   rw[e1]at c2
   simp(disch:=apply zq;omega) only[go_sem,simprocAttr,↓Nat.reduceEqDiff,xx,zfm,fd37,m37,c1,c2]
 . rw[hbr.2 g1]at c2
   have e1:ba=false:=by cases ba with|false=>rfl|true=>exact absurd (hba.1 rfl) g2
   rw[e1]at c3
   simp(disch:=apply zq;omega) only[go_sem,simprocAttr,↓Nat.reduceEqDiff,xx,zfm,fd37,m37,c1,c2,c3]
 . rw[hbr.2 g1]at c2
   rw[hba.2 g2]at c3
   rw[hat.2 g3]at c1
   simp(disch:=apply zq;omega) only[go_sem,simprocAttr,↓Nat.reduceEqDiff,xx,zfm,fd37,m37,c1,c2,c3]
 . rw[hbr.2 g1]at c2
   rw[hba.2 g2]at c3
   have e1:isAt S.H h.nm k=false:=by
    cases hb:isAt S.H h.nm k with
    | false=>rfl
    | true=>exact absurd (hat.1 hb) g3
   rw[e1]at c1
   by_cases g5:S.c<h.sz
   . simp(disch:=apply zq;omega) only[go_sem,simprocAttr,↓Nat.reduceEqDiff,xx,zfm,fd37,m37,c1,c2,c3]
   . have g6:=g4.resolve_left g5
     simp(disch:=apply zq;omega) only[go_sem,simprocAttr,↓Nat.reduceEqDiff,xx,zfm,fd37,m37,c1,c2,c3,zaa]
abbrev qq (fh fl:Bool)(mh:Sh):Fl:=⟨false,fh,fl,sA,mh⟩
def z2s (cl:Cl)(S:Sf)(h:Ob)(fh fl:Bool)(mh:Sh):Option (AV×Hp×List OB):=cl 37 [.ptr 100000 [],oV h] [(100000,.fix shX (XA S (qq fh fl mh) (tot S))),(100001,.mp [] 0)]
def rOkB (fh fl:Bool)(mh:Sh)(v:Vt):Option (AV×Hp×List OB) :=
 some (.tup [.sl 20000 [] 0 v.o.length,i64 0],[(100000,.fix shX (XR v.S v.S.A (qq fh fl mh) (tot v.S) 20001 v.S.H.length 100001)),(100001,.mp (esN v.m.1) v.m.2)],[.grow sO (hs v.o),.grow sO (hs v.S.H++[oV0])])
def rOkA (fh fl:Bool)(mh:Sh)(S:Sf):Option (AV×Hp×List OB) :=
 some (.tup [.sl 20000 [] 0 0,i64 0],[(100000,.fix shX (XA S (qq fh fl mh) (tot S))),(100001,.mp [] 0)],[.grow sO []])
def rErB (fh fl:Bool)(mh:Sh)(v:Vt)(e:Int):Option (AV×Hp×List OB) :=
 some (.tup [.lst true .sc [],i64 e],[(100000,.fix shX (XR v.S v.S.A (qq fh fl mh) (tot v.S) 20000 v.S.H.length 100001)),(100001,.mp (esN v.m.1) v.m.2)],[.grow sO (hs v.S.H++[oV0])])
def rErA (fh fl:Bool)(mh:Sh)(S:Sf)(e:Int):Option (AV×Hp×List OB) :=
 some (.tup [.lst true .sc [],i64 e],[(100000,.fix shX (XA S (qq fh fl mh) (tot S))),(100001,.mp [] 0)],[])
noncomputable def vEnd (h:Ob)(v:Vt):Int:=open Classical in if v.S.c<tot v.S+h.sz then 160 else if v.w=true then 0 else 170
theorem z6e [Nonempty (H.GlK gl)](hn:15<=n){S:Sf}{h:Ob}{fh fl:Bool}{mh:Sh}(hi:IV h (v0 S))(hmh:Mk S.H mh sO)(hr:ROk h)(hnm:h.nm.length<=5000)(hnn:¬hasN S h.nm)(hsz:h.sz<=S.c)(hl:S.H.length<4096) :
  ∃v,IV h v/\goV h v=false/\v=runV h S.H.length (v0 S)/\(v.b=false->v=v0 S)/\v.S.c=S.c /\
   z2s (call gl tab n) S h fh fl mh=if vEnd h v=0 then(if v.b=true then rOkB fh fl mh v else rOkA fh fl mh S)else(if v.b=true then rErB fh fl mh v (vEnd h v)else rErA fh fl mh S (vEnd h v)):=by
 obtain⟨d,rfl⟩:=wD hn
 have hv:VSf S:=hi.hv
 have hH:=hv.hn
 have hA:=hv.va.n
 obtain⟨k,hp,c1⟩:=@zgu gl (d+14) (by omega) fh mh S.H hmh (by omega) (zc4 hv.ho) h.nm
 have hat:=zkg (zc4 hv.ho) hp
 obtain⟨br,hbr,c2⟩:=@zj8 gl (d+14) (by omega) h
 obtain⟨ba,hba,c3⟩:=@z7f gl (d+14) (by omega) false sA S.A (.inr rfl) (by omega) h.tn
 have hcc:=hv.c
 rw[hbr.2 hr]at c2
 rw[hba.2 hi.ha]at c3
 have e1:isAt S.H h.nm k=false:=by
  cases hb:isAt S.H h.nm k with
  | false=>rfl
  | true=>exact absurd (hat.1 hb) hnn
 rw[e1]at c1
 obtain⟨v,hiv,hg,hF,hb0,hvc,hit⟩:=@qdu gl _ d h hr hnm fh fl mh S hi hmh
 have hszr:=hr.sz
 have htl:tot v.S<=1099511627776:=wB hiv.hv.ht hiv.hv.c.2
 have ht0:0<=tot v.S:=(zc2 hiv.hv.va (wC _)).1
 have htk:=zsp v.S.H [oV0]
 simp only[L37,m37]at hit
 refine⟨v,hiv,hg,hF,hb0,hvc,?_⟩
 unfold z2s
 have non:∀(hf:v.S.c<tot v.S+h.sz),(call gl tab (d+14) 50 [i64 v.S.c,.lst false sA (ac v.S.A),i64 h.tn,i64 h.sz] []=some (.tup [i64 0,i64 160],[],[])/\vtn v.S h=h.tn)\/call gl tab (d+14) 50 [i64 v.S.c,.lst false sA (ac v.S.A),i64 h.tn,i64 h.sz] []=some (.tup [i64 (vtn v.S h),i64 0],[],[]):=fun hf=>by
  have c1:=@zki gl (d+14) (by omega) v.S hiv.hv hiv.ht h hr hiv.ha hf
  by_cases ho:own v.S h
  . left
    refine⟨?_,by rw[vtn,if_pos ho]⟩
    unfold own at ho
    rw[if_pos ho]at c1;exact c1
  . right
    have:vtn v.S h=(bst v.S.A (fgs v.S h) (idxT v.S.A h.tn) v.S.A.length).1:=by rw[vtn,if_neg ho]
    rw[this]
    unfold own at ho
    rw[if_neg ho]at c1;exact c1
 have tkB:wls v h=[]->_:=fun hw=>@ztp gl (d+14) (by omega) v.S (qq fh fl sO) [oV0] ⟨.inr rfl,.inr rfl⟩ (by have:=hiv.hv.hn;omega) (vtn v.S h) hw (tot v.S) v.m
 have tkA:wls v h=[]->Mk v.S.H mh sO->_:=fun hw hm=>@ztq gl (d+14) (by omega) v.S (qq fh fl mh) ⟨.inr rfl,hm⟩ (by have:=hiv.hv.hn;omega) (vtn v.S h) hw (tot v.S) v.m
 rw[zbe (fd:=fd37) rfl]
 simp(disch:=apply zq;omega) only[go_sem,simprocAttr,↓Nat.reduceEqDiff,xx,zfm,fd37,m37,c1,c2,c3,zaa]
 rw[hit _ (by simp(disch:=apply zq;omega) only[go_sem,simprocAttr,↓Nat.reduceEqDiff,xx,S37A,v0,Mp.esN,zev])]
 cases hb:v.b with
 | true =>
   rw[SV_t hb]
   unfold S37B
   rcases z5a hg with g|⟨g1,g2⟩
   . cases hw:v.w with
     | true =>
       have e:vEnd h v=0:=by rw[vEnd,if_neg g,if_pos hw]
       rw[e,if_pos rfl,if_pos rfl,rOkB]
       generalize tot v.S=t at *
       simp(disch:=apply zq;omega) only[go_sem,simprocAttr,↓Nat.reduceEqDiff,xx,hw,zaa,htk]
     | false =>
       have e:vEnd h v=170:=by rw[vEnd,if_neg g,if_neg (by rw[hw];decide)]
       rw[e,if_neg (by decide),if_pos rfl,rErB]
       generalize tot v.S=t at *
       simp(disch:=apply zq;omega) only[go_sem,simprocAttr,↓Nat.reduceEqDiff,xx,hw,zaa,htk]
   . have e:vEnd h v=160:=by rw[vEnd,if_pos g1]
     rw[e,if_neg (by decide),if_pos rfl,rErB]
     have c4:=tkB g2
     clear tkA tkB
     generalize vtn v.S h=t at *
     rcases non g1 with ⟨c5,ht⟩|c5
     . rw[ht]at c4
       simp(disch:=apply zq;omega) only[go_sem,simprocAttr,↓Nat.reduceEqDiff,xx,c4,c5,zaa,htk]
     . simp(disch:=apply zq;omega) only[go_sem,simprocAttr,↓Nat.reduceEqDiff,xx,c4,c5,zaa,htk]
 | false =>
   have hv0:=hb0 hb
   rw[SV_f hb]
   have hmv:Mk v.S.H mh sO:=by rw[hv0];exact hmh
   have ew:v.w=true:=by rw[hv0];rfl
   have eo:v.o=[]:=by rw[hv0];rfl
   have em:v.m=([],0):=by rw[hv0];rfl
   have eS:v.S=S:=by rw[hv0];rfl
   unfold S37A
   rcases z5a hg with g|⟨g1,g2⟩
   . have e:vEnd h v=0:=by rw[vEnd,if_neg g,if_pos ew]
     rw[e,if_pos rfl,if_neg (by decide),rOkA]
     rw[ew,eo,em,eS]
     rw[eS]at g htl ht0
     generalize tot S=t at *
     simp(disch:=apply zq;omega) only[go_sem,simprocAttr,↓Nat.reduceEqDiff,xx,zev,Mp.esN]
   . have e:vEnd h v=160:=by rw[vEnd,if_pos g1]
     rw[e,if_neg (by decide),if_neg (by decide),rErA]
     have c4:=tkA g2 hmv
     have c6:=non g1
     clear tkA tkB non
     generalize vtn v.S h=t at *
     rw[eS]at c4 c6 g1 htl ht0
     rw[em]at c4
     simp only[qa0]at c4
     rw[ew,eo,em,eS]
     rcases c6 with ⟨c5,ht⟩|c5
     . rw[ht]at c4
       simp(disch:=apply zq;omega) only[go_sem,simprocAttr,↓Nat.reduceEqDiff,xx,c4,c5,zev,Mp.esN]
     . simp(disch:=apply zq;omega) only[go_sem,simprocAttr,↓Nat.reduceEqDiff,xx,c4,c5,zev,Mp.esN]
end Go.Proofs.S17
