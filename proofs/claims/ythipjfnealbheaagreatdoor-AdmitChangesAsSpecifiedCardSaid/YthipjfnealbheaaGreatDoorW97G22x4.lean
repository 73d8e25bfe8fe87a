/-
  Chapter 17: what must go, or why nothing may. No condition.
-/
import Derived.Test.YthipjfnealbheaaGreatDoorW97G21x4
set_option linter.all false
open Nat renaming exists_eq_add_of_le'->wB,le_refl->wC,lt_trichotomy->wD
open List renaming take_length->wE,getElem?_eq_getElem->wF
namespace Go.Proofs.S97
open Go Go.Ev Go.Proofs Go.Proofs.S97.Q
variable {gl :Gl} {n:Nat}
open Go.Mp (esN fN MOk)
def hasT (S:Sf)(t:Int):Prop:=∃k,k<S.A.length/\(aat S.A k).t=t
def hasN (S:Sf)(x:List UInt8):Prop:=∃j,j<S.H.length/\(oat S.H j).nm=x
def vErr (S:Sf)(h:Ob)(e:Int):Prop :=
 (¬ROk h/\e=1)\/(ROk h/\¬hasT S h.tn/\e=5)\/(ROk h/\hasT S h.tn/\hasN S h.nm/\e=6)\/(ROk h/\hasT S h.tn/\¬hasN S h.nm/\(S.c<h.sz\/4096<=S.H.length)/\e=2)
theorem qdo :esN []=[]:=rfl
theorem zhr {S:Sf}(hs:Srt S.H){x:List UInt8}{k:Nat}(hp:Pn S.H x k):isAt S.H x k=true↔hasN S x:=by
 unfold isAt
 rw[Bool.and_eq_true,decide_eq_true_eq,decide_eq_true_eq]
 constructor
 . rintro ⟨h1,h2⟩;exact⟨k,h1,h2⟩
 . rintro ⟨j,h1,h2⟩
   have e:k=j:=by
    rcases wD k j with h3|h3|h3
    . have:=hp.hi k (wC _) (by omega)
      have h4:=hs k j h3 h1
      rw[h2,this]at h4;cases h4
    . exact h3
    . have:=hp.lo j h3;rw[h2,Bl.irrefl]at this;cases this
   subst e;exact⟨h1,h2⟩
theorem qez (hn:15<=n){S:Sf}{h:Ob}{fh fl:Bool}{mh:Sh}(hv:VSf S)(hmh:Mk S.H mh sO){e:Int}(he:vErr S h e) :
  call gl tab n 22 [.ptr 100000 [],oV h] [(100000,.fix shX (XA S ⟨false,fh,fl,sA,mh⟩ (tot S))),(100001,.mp [] 0)] =
   some (.tup [.lst true .sc [],i64 e],[(100000,.fix shX (XA S ⟨false,fh,fl,sA,mh⟩ (tot S))),(100001,.mp [] 0)],[]):=by
 obtain⟨d,rfl⟩:=wB hn
 have hH:=hv.hn
 have hA:=hv.va.n
 obtain⟨k,hp,c1⟩:=@zfg gl (d+14) (by omega) fh mh S.H hmh (by omega) (zcl hv.ho) h.nm
 have hat:=zhr (zcl hv.ho) hp
 obtain⟨br,hbr,c2⟩:=@zkw gl (d+14) (by omega) h
 obtain⟨ba,hba,c3⟩:=@z9v gl (d+14) (by omega) false sA S.A (.inr rfl) (by omega) h.tn
 have hcc:=hv.c
 rw[za5 (fd:=fd22) rfl]
 rcases he with ⟨g1,rfl⟩|⟨g1,g2,rfl⟩|⟨g1,g2,g3,rfl⟩|⟨g1,g2,g3,g4,rfl⟩
 . have e1:br=false:=by cases br with|false=>rfl|true=>exact absurd (hbr.1 rfl) g1
   rw[e1]at c2
   simp(disch:=apply zq;omega) only[go_sem,simprocAttr,↓Nat.reduceEqDiff,xx,zfy,fd22,m22,c1,c2]
 . rw[hbr.2 g1]at c2
   have e1:ba=false:=by cases ba with|false=>rfl|true=>exact absurd (hba.1 rfl) g2
   rw[e1]at c3
   simp(disch:=apply zq;omega) only[go_sem,simprocAttr,↓Nat.reduceEqDiff,xx,zfy,fd22,m22,c1,c2,c3]
 . rw[hbr.2 g1]at c2
   rw[hba.2 g2]at c3
   rw[hat.2 g3]at c1
   simp(disch:=apply zq;omega) only[go_sem,simprocAttr,↓Nat.reduceEqDiff,xx,zfy,fd22,m22,c1,c2,c3]
 . rw[hbr.2 g1]at c2
   rw[hba.2 g2]at c3
   have e1:isAt S.H h.nm k=false:=by
    cases hb:isAt S.H h.nm k with
    | false=>rfl
    | true=>exact absurd (hat.1 hb) g3
   rw[e1]at c1
   by_cases g5:S.c<h.sz
   . simp(disch:=apply zq;omega) only[go_sem,simprocAttr,↓Nat.reduceEqDiff,xx,zfy,fd22,m22,c1,c2,c3]
   . have g6:=g4.resolve_left g5
     simp(disch:=apply zq;omega) only[go_sem,simprocAttr,↓Nat.reduceEqDiff,xx,zfy,fd22,m22,c1,c2,c3,zaa]
abbrev qq (fh fl:Bool)(mh:Sh):Fl:=⟨false,fh,fl,sA,mh⟩
def z4l (cl:Cl)(S:Sf)(h:Ob)(fh fl:Bool)(mh:Sh):Option (AV×Hp×List OB):=cl 22 [.ptr 100000 [],oV h] [(100000,.fix shX (XA S (qq fh fl mh) (tot S))),(100001,.mp [] 0)]
def rOkB (fh fl:Bool)(mh:Sh)(v:Vt):Option (AV×Hp×List OB) :=
 some (.tup [.sl 20000 [] 0 v.o.length,i64 0],[(100000,.fix shX (XR v.S v.S.A (qq fh fl mh) (tot v.S) 20001 v.S.H.length 100001)),(100001,.mp (esN v.m.1) v.m.2)],[.grow sO (hs v.o),.grow sO (hs v.S.H++[oV0])])
def rOkA (fh fl:Bool)(mh:Sh)(S:Sf):Option (AV×Hp×List OB) :=
 some (.tup [.sl 20000 [] 0 0,i64 0],[(100000,.fix shX (XA S (qq fh fl mh) (tot S))),(100001,.mp [] 0)],[.grow sO []])
def rErB (fh fl:Bool)(mh:Sh)(v:Vt)(e:Int):Option (AV×Hp×List OB) :=
 some (.tup [.lst true .sc [],i64 e],[(100000,.fix shX (XR v.S v.S.A (qq fh fl mh) (tot v.S) 20000 v.S.H.length 100001)),(100001,.mp (esN v.m.1) v.m.2)],[.grow sO (hs v.S.H++[oV0])])
def rErA (fh fl:Bool)(mh:Sh)(S:Sf)(e:Int):Option (AV×Hp×List OB) :=
 some (.tup [.lst true .sc [],i64 e],[(100000,.fix shX (XA S (qq fh fl mh) (tot S))),(100001,.mp [] 0)],[])
noncomputable def vEnd (h:Ob)(v:Vt):Int:=open Classical in if v.S.c<tot v.S+h.sz then 160 else if v.w=true then 0 else 170
theorem z8p [Nonempty (H.GlK gl)](hn:15<=n){S:Sf}{h:Ob}{fh fl:Bool}{mh:Sh}(hi:IV h (v0 S))(hmh:Mk S.H mh sO)(hr:ROk h)(hnm:h.nm.length<=5000)(hnn:¬hasN S h.nm)(hsz:h.sz<=S.c)(hl:S.H.length<4096) :
  ∃v,IV h v/\goV h v=false/\v=runV h S.H.length (v0 S)/\(v.b=false->v=v0 S)/\v.S.c=S.c /\
   z4l (call gl tab n) S h fh fl mh=if vEnd h v=0 then(if v.b=true then rOkB fh fl mh v else rOkA fh fl mh S)else(if v.b=true then rErB fh fl mh v (vEnd h v)else rErA fh fl mh S (vEnd h v)):=by
 obtain⟨d,rfl⟩:=wB hn
 have hv:VSf S:=hi.hv
 have hH:=hv.hn
 have hA:=hv.va.n
 obtain⟨k,hp,c1⟩:=@zfg gl (d+14) (by omega) fh mh S.H hmh (by omega) (zcl hv.ho) h.nm
 have hat:=zhr (zcl hv.ho) hp
 obtain⟨br,hbr,c2⟩:=@zkw gl (d+14) (by omega) h
 obtain⟨ba,hba,c3⟩:=@z9v gl (d+14) (by omega) false sA S.A (.inr rfl) (by omega) h.tn
 have hcc:=hv.c
 rw[hbr.2 hr]at c2
 rw[hba.2 hi.ha]at c3
 have e1:isAt S.H h.nm k=false:=by
  cases hb:isAt S.H h.nm k with
  | false=>rfl
  | true=>exact absurd (hat.1 hb) hnn
 rw[e1]at c1
 obtain⟨v,hiv,hg,hF,hb0,hvc,hit⟩:=@qgw gl _ d h hr hnm fh fl mh S hi hmh
 have hszr:=hr.sz
 have htl:tot v.S<=1099511627776:=Int.le_trans hiv.hv.ht hiv.hv.c.2
 have ht0:0<=tot v.S:=(zdd hiv.hv.va (wC _)).1
 have htk:=ztt v.S.H [oV0]
 simp only[L37,m22]at hit
 refine⟨v,hiv,hg,hF,hb0,hvc,?_⟩
 unfold z4l
 have non:∀(hf:v.S.c<tot v.S+h.sz),(call gl tab (d+14) 54 [i64 v.S.c,.lst false sA (ac v.S.A),i64 h.tn,i64 h.sz] []=some (.tup [i64 0,i64 160],[],[])/\vtn v.S h=h.tn)\/call gl tab (d+14) 54 [i64 v.S.c,.lst false sA (ac v.S.A),i64 h.tn,i64 h.sz] []=some (.tup [i64 (vtn v.S h),i64 0],[],[]):=fun hf=>by
  have c1:=@zk6 gl (d+14) (by omega) v.S hiv.hv hiv.ht h hr hiv.ha hf
  by_cases ho:own v.S h
  . left
    refine⟨?_,by rw[vtn,if_pos ho]⟩
    unfold own at ho
    rw[if_pos ho]at c1;exact c1
  . right
    have:vtn v.S h=(bst v.S.A (fgs v.S h) (idxT v.S.A h.tn) v.S.A.length).1:=by rw[vtn,if_neg ho]
    rw[this]
    unfold own at ho
    rw[if_neg ho]at c1;exact c1
 have tkB:wls v h=[]->_:=fun hw=>@zut gl (d+14) (by omega) v.S (qq fh fl sO) [oV0] ⟨.inr rfl,.inr rfl⟩ (by have:=hiv.hv.hn;omega) (vtn v.S h) hw (tot v.S) v.m
 have tkA:wls v h=[]->Mk v.S.H mh sO->_:=fun hw hm=>@zuu gl (d+14) (by omega) v.S (qq fh fl mh) ⟨.inr rfl,hm⟩ (by have:=hiv.hv.hn;omega) (vtn v.S h) hw (tot v.S) v.m
 rw[za5 (fd:=fd22) rfl]
 simp(disch:=apply zq;omega) only[go_sem,simprocAttr,↓Nat.reduceEqDiff,xx,zfy,fd22,m22,c1,c2,c3,zaa]
 rw[hit _ (by simp(disch:=apply zq;omega) only[go_sem,simprocAttr,↓Nat.reduceEqDiff,xx,S37A,v0,Mp.esN,zez])]
 cases hb:v.b with
 | true =>
   rw[SV_t hb]
   unfold S37B
   rcases z62 hg with g|⟨g1,g2⟩
   . cases hw:v.w with
     | true =>
       have e:vEnd h v=0:=by rw[vEnd,if_neg g,if_pos hw]
       rw[e,if_pos rfl,if_pos rfl,rOkB]
       generalize tot v.S=t at *
       simp(disch:=apply zq;omega) only[go_sem,simprocAttr,↓Nat.reduceEqDiff,xx,hw,zaa,htk]
     | false =>
       have e:vEnd h v=170:=by rw[vEnd,if_neg g,if_neg (by rw[hw];decide)]
       rw[e,if_neg (by decide),if_pos rfl,rErB]
       generalize tot v.S=t at *
       simp(disch:=apply zq;omega) only[go_sem,simprocAttr,↓Nat.reduceEqDiff,xx,hw,zaa,htk]
   . have e:vEnd h v=160:=by rw[vEnd,if_pos g1]
     rw[e,if_neg (by decide),if_pos rfl,rErB]
     have c4:=tkB g2
     clear tkA tkB
     generalize vtn v.S h=t at *
     rcases non g1 with ⟨c5,ht⟩|c5
     . rw[ht]at c4
       simp(disch:=apply zq;omega) only[go_sem,simprocAttr,↓Nat.reduceEqDiff,xx,c4,c5,zaa,htk]
     . simp(disch:=apply zq;omega) only[go_sem,simprocAttr,↓Nat.reduceEqDiff,xx,c4,c5,zaa,htk]
 | false =>
   have hv0:=hb0 hb
   rw[SV_f hb]
   have hmv:Mk v.S.H mh sO:=by rw[hv0];exact hmh
   have ew:v.w=true:=by rw[hv0];rfl
   have eo:v.o=[]:=by rw[hv0];rfl
   have em:v.m=([],0):=by rw[hv0];rfl
   have eS:v.S=S:=by rw[hv0];rfl
   unfold S37A
   rcases z62 hg with g|⟨g1,g2⟩
   . have e:vEnd h v=0:=by rw[vEnd,if_neg g,if_pos ew]
     rw[e,if_pos rfl,if_neg (by decide),rOkA]
     rw[ew,eo,em,eS]
     rw[eS]at g htl ht0
     generalize tot S=t at *
     simp(disch:=apply zq;omega) only[go_sem,simprocAttr,↓Nat.reduceEqDiff,xx,zez,Mp.esN]
   . have e:vEnd h v=160:=by rw[vEnd,if_pos g1]
     rw[e,if_neg (by decide),if_neg (by decide),rErA]
     have c4:=tkA g2 hmv
     have c6:=non g1
     clear tkA tkB non
     generalize vtn v.S h=t at *
     rw[eS]at c4 c6 g1 htl ht0
     rw[em]at c4
     simp only[qdo]at c4
     rw[ew,eo,em,eS]
     rcases c6 with ⟨c5,ht⟩|c5
     . rw[ht]at c4
       simp(disch:=apply zq;omega) only[go_sem,simprocAttr,↓Nat.reduceEqDiff,xx,c4,c5,zez,Mp.esN]
     . simp(disch:=apply zq;omega) only[go_sem,simprocAttr,↓Nat.reduceEqDiff,xx,c4,c5,zez,Mp.esN]
end Go.Proofs.S97
namespace Go.Proofs.S97
open Go Go.Ev Go.Proofs Go.Proofs.S97.Q
variable {gl :Gl} {n:Nat}
open Go.Mp (esN fN MOk)
theorem zr5 (h:1<=n){f:Bool}{m:Sh}{l:List Ob}(hm:Mk l m sO)(hl:l.length<=8192):call gl tab n 26 [.lst f m (hs l)] []=some (.sl 20000 [] 0 l.length,[],[.grow sO (hs l)]):=by
 rcases hm with rfl|rfl
 . obtain⟨d,rfl⟩:=wB h
   rw[zei (fd:=fd26) rfl rfl]
   have h1:0<=LIM:=by unfold LIM;omega
   simp[zh1,zez,h1,Sh.beq,Sh.beqs]
 . exact zg9 h hl
def insO (l:List Ob)(k:Nat)(o:Ob):List Ob:=l.take k++o::l.drop k
theorem qcy (l:List Ob)(k:Nat)(o:Ob):insL (hs l) k (oV o)=hs (insO l k o):=by simp[insL,hs,insO]
theorem zgg {l:List Ob}{k:Nat}(hk:k<=l.length)(o:Ob):(insO l k o).length=l.length+1:=by simp[insO];omega
theorem z18 (h:1<=n){l:List Ob}(hl:l.length<=8192){k:Nat}(hk:k<=l.length)(o:Ob) :
  call gl tab n 25 [.sl 100000 [] 0 l.length,i64 k,.sl 100001 [] 0 1] [(100000,.grow sO (hs l)),(100001,.grow sO [oV o])] =
   some (.sl 20000 [] 0 (l.length+1),[(100000,.dead),(100001,.grow sO [oV o])],[.grow sO (hs (insO l k o))]):=by
 obtain⟨d,rfl⟩:=wB h
 rw[zei (fd:=fd25) rfl rfl]
 have hlim:l.length+1<=LIM:=by unfold LIM;omega
 have hi:=qcy l k o
 simp[zpi,zaa,Sh.beq,Sh.beqs,hlim,hk,hi]
def nms (l:List Ob):List AV:=l.map fun o=>.str o.nm
theorem zeo (l:List Ob):(nms l).length=l.length:=by simp[nms]
theorem qkk {l:List Ob}{i:Nat}(h:i<l.length):nms (l.take (i+1))=nms (l.take i)++[.str (oat l i).nm]:=by
 unfold nms oat
 rw[List.take_succ,List.map_append,wF h,List.getD_eq_getElem?_getD,wF h];rfl
theorem z50 (l:List Ob)(v:AV){k:Nat}(h:l.length=k):(nms l++[v]).take (k+1)=nms l++[v]:=by rw[<-h,<-zeo];exact List.take_of_length_le (by simp)
def L42 :MC:=match m23 with| .seq _ (.seq _ (.seq (.seq _ (.block _ (.loop _ b))) _))=>b|_=>.skip
def S42 (f:Bool)(m:Sh)(l:List Ob)(i:Nat):St:=⟨[.set 8 (i64 i),.set 7 (i64 l.length),.set 6 (.lst f m (hs l)),.set 3 (.sl 5003 [] 0 i)],[(5003,.grow .sc (nms (l.take i)))]⟩
theorem z51 (h:1<=n){f:Bool}{m:Sh}{l:List Ob}(hm:Mk l m sO)(hl:l.length<=8192):call gl tab n 23 [.lst f m (hs l)] []=some (.sl 20000 [] 0 l.length,[],[.grow .sc (nms l)]):=by
 obtain⟨d,rfl⟩:=wB h
 have hst:∀i,i<l.length->zba [.own 3 5003 .sc,.slot 6,.slot 7,.slot 8] (evC gl (call gl tab d) L42 (S42 f m l i))=some (S42 f m l (i+1)):=fun i hi=>by
  have hx:=zdu hi
  obtain rfl:=hm.eq hi
  have e:=qkk hi
  have hlt:(l.take i).length=i:=by rw[List.length_take];omega
  have e2:=z50 (l.take i) (.str (oat l i).nm) hlt
  have e3:(nms (l.take i)).length=i:=by rw[zeo,hlt]
  have hlim:i+1<=LIM:=by unfold LIM;omega
  simp(disch:=apply zq;omega) only[go_sem,simprocAttr,↓Nat.reduceEqDiff,xx,L42,m23,S42,zaa,hx,e,e2,e3,hlim]
 have e0:nms []=[]:=rfl
 have ee:nms (l.take l.length)=nms l:=by rw[wE]
 have e4:(nms l).take l.length=nms l:=by rw[<-zeo];exact wE
 simp only[L42,m23]at hst
 rw[zaf (fd:=fd23) rfl]
 simp(disch:=apply zq;omega) only[go_sem,simprocAttr,↓Nat.reduceEqDiff,xx,fd23,m23,zaa]
 rw[zaj (S42 f m l) l.length (by unfold LF;omega)]
 . simp(disch:=apply zq;omega) only[go_sem,simprocAttr,↓Nat.reduceEqDiff,xx,S42,zaa,ee,e4,zeo]
 . simp(disch:=apply zq;omega) only[go_sem,simprocAttr,↓Nat.reduceEqDiff,xx,S42,zaa,e0]
 . exact hst
 . simp(disch:=apply zq;omega) only[go_sem,simprocAttr,↓Nat.reduceEqDiff,xx,S42,zaa]
def adm (S:Sf)(h:Ob)(k j:Nat):Sf:=⟨S.c,updA S.A j h.sz,insO S.H k h,S.w,S.s,S.a,S.L⟩
theorem z8m (hn:16<=n){S:Sf}{h:Ob}{fh fl:Bool}{mh:Sh}(hv:VSf S)(hmh:Mk S.H mh sO){e:Int}(he:vErr S h e) :
  call gl tab n 8 [sfV S (qq fh fl mh),oV h] []=some (.tup [sfV S (qq fh fl mh),.lst true .sc [],i64 e],[],[]):=by
 obtain⟨d,rfl⟩:=wB hn
 have c1:=@zp2 gl (d+15) (by omega) S (qq fh fl mh) ⟨.inr rfl,hmh⟩ hv.va
 have c2:=@qez gl (d+15) (by omega) S h fh fl mh hv hmh e he
 have hne:(e != 0)=true:=by
  rcases he with ⟨_,rfl⟩|⟨_,_,rfl⟩|⟨_,_,_,rfl⟩|⟨_,_,_,_,rfl⟩<;>rfl
 rw[zaf (fd:=fd8) rfl]
 simp(disch:=apply zq;omega) only[go_sem,simprocAttr,↓Nat.reduceEqDiff,xx,fd8,m8,c1,c2,hne]
end Go.Proofs.S97
namespace Go.Proofs.S97
open Go Go.Ev Go.Proofs Go.Proofs.S97.Q
variable {gl :Gl} {n:Nat}
open Go.Mp (esN fN MOk)
theorem zsp {l:List A3}(hv:VA l){k:Nat}:∀{i:Nat},i<=l.length->k<i->(aat l k).u<=sumU l i
 | 0,_,h=>absurd h (Nat.not_lt_zero _)
 | i+1,hi,h=>by
   have h1:=(hv.ok i (by omega)).u
   have h2:=zdd hv (show i<=l.length by omega)
   rw[sumU]
   by_cases e:k=i
   . subst e;omega
   . have:=zsp hv (k:=k) (show i<=l.length by omega) (by omega);omega
theorem znf :∀(l:List Ob),zcy (nms l)=true
 | []=>rfl
 | o::l=>by
   show(zc5 (.str o.nm)&&zcy (nms l))=true
   rw[znf l];rfl
theorem zwl (hn:16<=n){S:Sf}{h:Ob}{fh fl:Bool}{mh:Sh}(hv:VSf S)(hmh:Mk S.H mh sO)(hr:ROk h){v:Vt}(hi:IV h v)(hb0:v.b=false->v=v0 S)
  (hc:z4l (call gl tab (n-1)) S h fh fl mh=if vEnd h v=0 then(if v.b=true then rOkB fh fl mh v else rOkA fh fl mh S)else(if v.b=true then rErB fh fl mh v (vEnd h v)else rErA fh fl mh S (vEnd h v))) (he:vEnd h v=0) :
  ∃k,Pn v.S.H h.nm k/\call gl tab n 8 [sfV S (qq fh fl mh),oV h] []=some (.tup [sfV (adm v.S h k (idxT v.S.A h.tn)) (qq false fl sO),.lst false .sc (nms v.o),i64 0],[],[]):=by
 obtain⟨d,rfl⟩:=wB hn
 rw[show d+16-1=d+15 from rfl,if_pos he]at hc
 unfold z4l at hc
 have c1:=@zp2 gl (d+15) (by omega) S (qq fh fl mh) ⟨.inr rfl,hmh⟩ hv.va
 have hf:¬v.S.c<tot v.S+h.sz:=fun h1=>by rw[vEnd,if_pos h1]at he;cases he
 obtain⟨g1,g2⟩:=zh7 hi.hv.va hi.ha
 have hge:=zsp hi.hv.va (k:=idxT v.S.A h.tn) (wC _) g1
 have hu:=(hi.hv.va.ok _ g1).u
 have hcc:=hi.hv.c
 have hsz:=hr.sz
 have hu2:uerr v.S.A (idxT v.S.A h.tn) h.sz true=0:=by
  rw[uerr,if_pos rfl,if_neg]
  have hf':¬v.S.c<sumU v.S.A v.S.A.length+h.sz:=hf
  omega
 have hq:I64 h.tn:=by rw[<-g2];have:=hi.ht _ g1;have:=zeq hi.hv.va g1;exact⟨by omega,by omega⟩
 have c3:=@zsm gl (d+15) (by omega) v.S.A hi.hv.va hi.ht h.tn h.sz hq _ g1 g2 hu2
 have hH:=hi.hv.hn
 have hol:=hi.ol
 have c4:=@z51 gl (d+15) (by omega) false sO v.o (.inr rfl) (by omega)
 have hno:=zfs v.o
 have hno2:=znf v.o
 have hnh:=zfs v.S.H
 have htk:=ztt v.S.H [oV0]
 have htko:=zdz v.o
 cases hb:v.b with
 | true =>
   rw[hb,if_pos rfl,rOkB]at hc
   obtain⟨k,hp,c5⟩:=@zfg gl (d+15) (by omega) false sO v.S.H (.inr rfl) (by omega) (zcl hi.hv.ho) h.nm
   have c6:=fun f=>@zr5 gl (d+15) (by omega) f sO v.S.H (.inr rfl) (by omega)
   have c7:=@z18 gl (d+15) (by omega) v.S.H (by omega) k hp.le h
   have e1:=zgg hp.le h
   have e2:=zdz (insO v.S.H k h)
   rw[e1]at e2
   have e3:(nms v.o).take v.o.length=nms v.o:=by rw[<-zeo];exact wE
   refine⟨k,hp,?_⟩
   rw[zaf (fd:=fd8) rfl]
   simp(disch:=apply zq;omega) only[go_sem,simprocAttr,↓Nat.reduceEqDiff,xx,fd8,m8,c1,hc,c5,c6,c7,c3,c4,zaa,hno,hno2,hnh,htk,htko,e1,e2,e3,zeo]
   rfl
 | false =>
   rw[hb,if_neg (by decide),rOkA]at hc
   have hv0:=hb0 hb
   have eS:v.S=S:=by rw[hv0];rfl
   have eo:v.o=[]:=by rw[hv0];rfl
   clear hv0 hb0
   rw[eS]at c3 hf hH
   rw[eS,eo]
   rw[eo]at c4
   have hsr:Srt S.H:=zcl hv.ho
   obtain⟨k,hp,c5⟩:=@zfg gl (d+15) (by omega) fh mh S.H hmh (by omega) hsr h.nm
   have c6:=fun f=>@zr5 gl (d+15) (by omega) f mh S.H hmh (by omega)
   have c7:=@z18 gl (d+15) (by omega) S.H (by omega) k hp.le h
   have e1:=zgg hp.le h
   have e2:=zdz (insO S.H k h)
   rw[e1]at e2
   have e4:nms []=[]:=rfl
   rw[zez,e4]at c4
   refine⟨k,hp,?_⟩
   rw[zaf (fd:=fd8) rfl]
   simp(disch:=apply zq;omega) only[go_sem,simprocAttr,↓Nat.reduceEqDiff,xx,fd8,m8,c1,hc,c5,c6,c7,c3,c4,zaa,e1,e2,e4]
   rfl
end Go.Proofs.S97
namespace Go.Proofs.S97
open Go Go.Ev Go.Proofs Go.Proofs.S97.Q
variable {gl :Gl} {n:Nat}
theorem zqt (hn:16<=n){S:Sf}{x:List UInt8}{fh fl:Bool}{mh:Sh}(hv:VSf S)(hmh:Mk S.H mh sO)(hx:¬hasN S x) :
  call gl tab n 14 [sfV S (qq fh fl mh),.str x] []=some (.tup [sfV S (qq fh fl mh),i64 5],[],[]):=by
 obtain⟨d,rfl⟩:=wB hn
 have hH:=hv.hn
 obtain⟨k,hp,c1⟩:=@zfg gl (d+15) (by omega) fh mh S.H hmh (by omega) (zcl hv.ho) x
 have e1:isAt S.H x k=false:=by
  cases hb:isAt S.H x k with
  | false=>rfl
  | true=>exact absurd ((zhr (zcl hv.ho) hp).1 hb) hx
 rw[e1]at c1
 rw[zaf (fd:=fd14) rfl]
 simp(disch:=apply zq;omega) only[go_sem,simprocAttr,↓Nat.reduceEqDiff,xx,fd14,m14,c1]
theorem qf7 {l:List Ob}(hs:Srt l){j:Nat}(hj:j<l.length){k:Nat}(hp:Pn l (oat l j).nm k):k=j:=by
 rcases wD j k with h3|h3|h3
 . have:=hp.lo j h3;rw[Bl.irrefl]at this;cases this
 . exact h3.symm
 . have:=hp.hi k (wC _) (by omega);rw[hs k j h3 hj]at this;cases this
theorem z0j (hn:16<=n){S:Sf}{fh fl:Bool}{mh:Sh}(hv:VSf S)(ht:Tn S.A)(hmh:Mk S.H mh sO){j:Nat}(hj:j<S.H.length) :
  call gl tab n 14 [sfV S (qq fh fl mh),.str (oat S.H j).nm] []=some (.tup [sfV (drp S j (idxT S.A (oat S.H j).tn)) (qq false fl sO),i64 0],[],[]):=by
 obtain⟨d,rfl⟩:=wB hn
 have hH:=hv.hn
 have hR:RL S.H:=fun i hi=>(hv.ho i hi).r
 obtain⟨k,hp,c1⟩:=@zfg gl (d+15) (by omega) fh mh S.H hmh (by omega) (zcl hv.ho) (oat S.H j).nm
 have ek:=qf7 (zcl hv.ho) hj hp
 subst ek
 have e1:isAt S.H (oat S.H k).nm k=true:=(zhr (zcl hv.ho) hp).2 ⟨k,hj,rfl⟩
 rw[e1]at c1
 obtain⟨g1,g2⟩:=zh7 hv.va (hv.ho k hj).t
 have hq:I64 (oat S.H k).tn:=by rw[<-g2];have:=ht _ g1;have:=zeq hv.va g1;exact⟨by omega,by omega⟩
 have hsz:0<=(oat S.H k).sz/\(oat S.H k).sz<=(aat S.A (idxT S.A (oat S.H k).tn)).u:=by
  rw[hv.hu _ g1,g2];have:=(hR k hj).sz;exact⟨by omega,zun hR hj⟩
 have htl:tot S<=1099511627776:=Int.le_trans hv.ht hv.c.2
 have ht0:0<=tot S:=(zdd hv.va (wC _)).1
 have c2:=@zp2 gl (d+15) (by omega) S (qq fh fl mh) ⟨.inr rfl,hmh⟩ hv.va
 have c3:=@zv4 gl (d+15) (by omega) S fh fl mh hmh (by omega) (zcl hv.ho) hv.va ht k _ hj g1 g2 hq hsz (tot S) ⟨ht0,by omega⟩ [] 0
 have hx:=zdu hj
 have hmj:=hmh.eq hj
 subst hmj
 have hel:(S.H.eraseIdx k).length=S.H.length-1:=by rw[List.length_eraseIdx,if_pos hj]
 have htk:=ztt (S.H.eraseIdx k) [oV0]
 have hle:(hs (S.H.eraseIdx k)).length=S.H.length-1:=by rw[zaa,hel]
 rw[hel]at htk
 unfold drp
 generalize updA S.A (idxT S.A (oat S.H k).tn) (-(oat S.H k).sz)=A2 at *
 generalize hhe:hs (S.H.eraseIdx k)=he at *
 generalize tot S-(oat S.H k).sz=t2 at *
 generalize oat S.H k=o at *
 rw[zaf (fd:=fd14) rfl]
 simp(disch:=apply zq;omega) only[go_sem,simprocAttr,↓Nat.reduceEqDiff,xx,fd14,m14,c1,c2,c3,zaa,hx,htk,hle,List.length_append]
 rw[<-hhe]
end Go.Proofs.S97
