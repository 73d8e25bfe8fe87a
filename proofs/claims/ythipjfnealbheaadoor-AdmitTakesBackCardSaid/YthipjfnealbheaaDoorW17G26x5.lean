/-
  Chapter 17: objects taken in; names. No condition.
-/
import Derived.Test.YthipjfnealbheaaDoorW17G25x5
import Derived.Test.YthipjfnealbheaaDoorW17G13x5
set_option linter.all false
open Nat renaming exists_eq_add_of_le'->wB,le_refl->wC
open List renaming take_length->wD,getD_eq_getElem?_getD->wE,getElem?_eq_getElem->wF,length_take->wG
namespace Go.Proofs.S17
open Go Go.Ev Go.Proofs Go.Proofs.S17.Q
variable {gl :Gl} {n:Nat}
open Go.Mp (esN fN MOk)
theorem zq6 (h:1<=n){f:Bool}{m:Sh}{l:List Ob}(hm:Mk l m sO)(hl:l.length<=8192):call gl tab n 40 [.lst f m (hs l)] []=some (.sl 20000 [] 0 l.length,[],[.grow sO (hs l)]):=by
 rcases hm with rfl|rfl
 . obtain⟨d,rfl⟩:=wB h
   rw[zf9 (fd:=fd40) rfl rfl]
   have h1:0<=LIM:=by unfold LIM;omega
   simp[zim,zev,h1,Sh.beq,Sh.beqs]
 . exact zly h hl
def insO (l:List Ob)(k:Nat)(o:Ob):List Ob:=l.take k++o::l.drop k
theorem qaa (l:List Ob)(k:Nat)(o:Ob):insL (hs l) k (oV o)=hs (insO l k o):=by simp[insL,hs,insO]
theorem zf3 {l:List Ob}{k:Nat}(hk:k<=l.length)(o:Ob):(insO l k o).length=l.length+1:=by simp[insO];omega
theorem z0f (h:1<=n){l:List Ob}(hl:l.length<=8192){k:Nat}(hk:k<=l.length)(o:Ob) :
  call gl tab n 39 [.sl 100000 [] 0 l.length,i64 k,.sl 100001 [] 0 1] [(100000,.grow sO (hs l)),(100001,.grow sO [oV o])] =
   some (.sl 20000 [] 0 (l.length+1),[(100000,.dead),(100001,.grow sO [oV o])],[.grow sO (hs (insO l k o))]):=by
 obtain⟨d,rfl⟩:=wB h
 rw[zf9 (fd:=fd39) rfl rfl]
 have hlim:l.length+1<=LIM:=by unfold LIM;omega
 have hi:=qaa l k o
 simp[zoo,zaa,Sh.beq,Sh.beqs,hlim,hk,hi]
def nms (l:List Ob):List AV:=l.map fun o=>.str o.nm
theorem zea (l:List Ob):(nms l).length=l.length:=by simp[nms]
theorem qgs {l:List Ob}{i:Nat}(h:i<l.length):nms (l.take (i+1))=nms (l.take i)++[.str (oat l i).nm]:=by
 unfold nms oat
 rw[List.take_succ,List.map_append,wF h,wE,wF h];rfl
theorem z36 (l:List Ob)(v:AV){k:Nat}(h:l.length=k):(nms l++[v]).take (k+1)=nms l++[v]:=by rw[<-h,<-zea];exact List.take_of_length_le (by simp)
def L42 :MC:=match m42 with| .seq _ (.seq _ (.seq (.seq _ (.block _ (.loop _ b))) _))=>b|_=>.skip
def S42 (f:Bool)(m:Sh)(l:List Ob)(i:Nat):St:=⟨[.set 8 (i64 i),.set 7 (i64 l.length),.set 6 (.lst f m (hs l)),.set 3 (.sl 5003 [] 0 i)],[(5003,.grow .sc (nms (l.take i)))]⟩
theorem z37 (h:1<=n){f:Bool}{m:Sh}{l:List Ob}(hm:Mk l m sO)(hl:l.length<=8192):call gl tab n 42 [.lst f m (hs l)] []=some (.sl 20000 [] 0 l.length,[],[.grow .sc (nms l)]):=by
 obtain⟨d,rfl⟩:=wB h
 have hst:∀i,i<l.length->zbp [.own 3 5003 .sc,.slot 6,.slot 7,.slot 8] (evC gl (call gl tab d) L42 (S42 f m l i))=some (S42 f m l (i+1)):=fun i hi=>by
  have hx:=zeq hi
  obtain rfl:=hm.eq hi
  have e:=qgs hi
  have hlt:(l.take i).length=i:=by rw[wG];omega
  have e2:=z36 (l.take i) (.str (oat l i).nm) hlt
  have e3:(nms (l.take i)).length=i:=by rw[zea,hlt]
  have hlim:i+1<=LIM:=by unfold LIM;omega
  simp(disch:=apply zq;omega) only[go_sem,simprocAttr,↓Nat.reduceEqDiff,xx,L42,m42,S42,zaa,hx,e,e2,e3,hlim]
 have e0:nms []=[]:=rfl
 have ee:nms (l.take l.length)=nms l:=by rw[wD]
 have e4:(nms l).take l.length=nms l:=by rw[<-zea];exact wD
 simp only[L42,m42]at hst
 rw[zah (fd:=fd42) rfl]
 simp(disch:=apply zq;omega) only[go_sem,simprocAttr,↓Nat.reduceEqDiff,xx,fd42,m42,zaa]
 rw[zao (S42 f m l) l.length (by unfold LF;omega)]
 . simp(disch:=apply zq;omega) only[go_sem,simprocAttr,↓Nat.reduceEqDiff,xx,S42,zaa,ee,e4,zea]
 . simp(disch:=apply zq;omega) only[go_sem,simprocAttr,↓Nat.reduceEqDiff,xx,S42,zaa,e0]
 . exact hst
 . simp(disch:=apply zq;omega) only[go_sem,simprocAttr,↓Nat.reduceEqDiff,xx,S42,zaa]
def adm (S:Sf)(h:Ob)(k j:Nat):Sf:=⟨S.c,updA S.A j h.sz,insO S.H k h,S.w,S.s,S.a,S.L⟩
theorem z6c (hn:16<=n){S:Sf}{h:Ob}{fh fl:Bool}{mh:Sh}(hv:VSf S)(hmh:Mk S.H mh sO){e:Int}(he:vErr S h e) :
  call gl tab n 14 [sfV S (qq fh fl mh),oV h] []=some (.tup [sfV S (qq fh fl mh),.lst true .sc [],i64 e],[],[]):=by
 obtain⟨d,rfl⟩:=wB hn
 have c1:=@zo9 gl (d+15) (by omega) S (qq fh fl mh) ⟨.inr rfl,hmh⟩ hv.va
 have c2:=@qb9 gl (d+15) (by omega) S h fh fl mh hv hmh e he
 have hne:(e != 0)=true:=by
  rcases he with ⟨_,rfl⟩|⟨_,_,rfl⟩|⟨_,_,_,rfl⟩|⟨_,_,_,_,rfl⟩<;>rfl
 rw[zah (fd:=fd14) rfl]
 simp(disch:=apply zq;omega) only[go_sem,simprocAttr,↓Nat.reduceEqDiff,xx,fd14,m14,c1,c2,hne]
end Go.Proofs.S17
namespace Go.Proofs.S17
open Go Go.Ev Go.Proofs Go.Proofs.S17.Q
variable {gl :Gl} {n:Nat}
open Go.Mp (esN fN MOk)
theorem zrp {l:List A3}(hv:VA l){k:Nat}:∀{i:Nat},i<=l.length->k<i->(aat l k).u<=sumU l i
 | 0,_,h=>absurd h (Nat.not_lt_zero _)
 | i+1,hi,h=>by
   have h1:=(hv.ok i (by omega)).u
   have h2:=zc2 hv (show i<=l.length by omega)
   rw[sumU]
   by_cases e:k=i
   . subst e;omega
   . have:=zrp hv (k:=k) (show i<=l.length by omega) (by omega);omega
theorem zmn :∀(l:List Ob),zc0 (nms l)=true
 | []=>rfl
 | o::l=>by
   show(zcw (.str o.nm)&&zc0 (nms l))=true
   rw[zmn l];rfl
theorem zu9 (hn:16<=n){S:Sf}{h:Ob}{fh fl:Bool}{mh:Sh}(hv:VSf S)(hmh:Mk S.H mh sO)(hr:ROk h){v:Vt}(hi:IV h v)(hb0:v.b=false->v=v0 S)
  (hc:z2s (call gl tab (n-1)) S h fh fl mh=if vEnd h v=0 then(if v.b=true then rOkB fh fl mh v else rOkA fh fl mh S)else(if v.b=true then rErB fh fl mh v (vEnd h v)else rErA fh fl mh S (vEnd h v))) (he:vEnd h v=0) :
  ∃k,Pn v.S.H h.nm k/\call gl tab n 14 [sfV S (qq fh fl mh),oV h] []=some (.tup [sfV (adm v.S h k (idxT v.S.A h.tn)) (qq false fl sO),.lst false .sc (nms v.o),i64 0],[],[]):=by
 obtain⟨d,rfl⟩:=wB hn
 rw[show d+16-1=d+15 from rfl,if_pos he]at hc
 unfold z2s at hc
 have c1:=@zo9 gl (d+15) (by omega) S (qq fh fl mh) ⟨.inr rfl,hmh⟩ hv.va
 have hf:¬v.S.c<tot v.S+h.sz:=fun h1=>by rw[vEnd,if_pos h1]at he;cases he
 obtain⟨g1,g2⟩:=zi5 hi.hv.va hi.ha
 have hge:=zrp hi.hv.va (k:=idxT v.S.A h.tn) (wC _) g1
 have hu:=(hi.hv.va.ok _ g1).u
 have hcc:=hi.hv.c
 have hsz:=hr.sz
 have hu2:uerr v.S.A (idxT v.S.A h.tn) h.sz true=0:=by
  rw[uerr,if_pos rfl,if_neg]
  have hf':¬v.S.c<sumU v.S.A v.S.A.length+h.sz:=hf
  omega
 have hq:I64 h.tn:=by rw[<-g2];have:=hi.ht _ g1;have:=zed hi.hv.va g1;exact⟨by omega,by omega⟩
 have c3:=@zrm gl (d+15) (by omega) v.S.A hi.hv.va hi.ht h.tn h.sz hq _ g1 g2 hu2
 have hH:=hi.hv.hn
 have hol:=hi.ol
 have c4:=@z37 gl (d+15) (by omega) false sO v.o (.inr rfl) (by omega)
 have hno:=zfg v.o
 have hno2:=zmn v.o
 have hnh:=zfg v.S.H
 have htk:=zsp v.S.H [oV0]
 have htko:=zoq v.o
 cases hb:v.b with
 | true =>
   rw[hb,if_pos rfl,rOkB]at hc
   obtain⟨k,hp,c5⟩:=@zgu gl (d+15) (by omega) false sO v.S.H (.inr rfl) (by omega) (zc4 hi.hv.ho) h.nm
   have c6:=fun f=>@zq6 gl (d+15) (by omega) f sO v.S.H (.inr rfl) (by omega)
   have c7:=@z0f gl (d+15) (by omega) v.S.H (by omega) k hp.le h
   have e1:=zf3 hp.le h
   have e2:=zoq (insO v.S.H k h)
   rw[e1]at e2
   have e3:(nms v.o).take v.o.length=nms v.o:=by rw[<-zea];exact wD
   refine⟨k,hp,?_⟩
   rw[zah (fd:=fd14) rfl]
   simp(disch:=apply zq;omega) only[go_sem,simprocAttr,↓Nat.reduceEqDiff,xx,fd14,m14,c1,hc,c5,c6,c7,c3,c4,zaa,hno,hno2,hnh,htk,htko,e1,e2,e3,zea]
   rfl
 | false =>
   rw[hb,if_neg (by decide),rOkA]at hc
   have hv0:=hb0 hb
   have eS:v.S=S:=by rw[hv0];rfl
   have eo:v.o=[]:=by rw[hv0];rfl
   clear hv0 hb0
   rw[eS]at c3 hf hH
   rw[eS,eo]
   rw[eo]at c4
   have hsr:Srt S.H:=zc4 hv.ho
   obtain⟨k,hp,c5⟩:=@zgu gl (d+15) (by omega) fh mh S.H hmh (by omega) hsr h.nm
   have c6:=fun f=>@zq6 gl (d+15) (by omega) f mh S.H hmh (by omega)
   have c7:=@z0f gl (d+15) (by omega) S.H (by omega) k hp.le h
   have e1:=zf3 hp.le h
   have e2:=zoq (insO S.H k h)
   rw[e1]at e2
   have e4:nms []=[]:=rfl
   rw[zev,e4]at c4
   refine⟨k,hp,?_⟩
   rw[zah (fd:=fd14) rfl]
   simp(disch:=apply zq;omega) only[go_sem,simprocAttr,↓Nat.reduceEqDiff,xx,fd14,m14,c1,hc,c5,c6,c7,c3,c4,zaa,e1,e2,e4]
   rfl
end Go.Proofs.S17
namespace Go.Proofs.S17
open Go Go.Ev Go.Proofs Go.Proofs.S17.Q
variable {gl :Gl} {n:Nat}
theorem zpw (hn:16<=n){S:Sf}{x:List UInt8}{fh fl:Bool}{mh:Sh}(hv:VSf S)(hmh:Mk S.H mh sO)(hx:¬hasN S x) :
  call gl tab n 18 [sfV S (qq fh fl mh),.str x] []=some (.tup [sfV S (qq fh fl mh),i64 5],[],[]):=by
 obtain⟨d,rfl⟩:=wB hn
 have hH:=hv.hn
 obtain⟨k,hp,c1⟩:=@zgu gl (d+15) (by omega) fh mh S.H hmh (by omega) (zc4 hv.ho) x
 have e1:isAt S.H x k=false:=by
  cases hb:isAt S.H x k with
  | false=>rfl
  | true=>exact absurd ((zkg (zc4 hv.ho) hp).1 hb) hx
 rw[e1]at c1
 rw[zah (fd:=fd18) rfl]
 simp(disch:=apply zq;omega) only[go_sem,simprocAttr,↓Nat.reduceEqDiff,xx,fd18,m18,c1]
theorem qgl {l:List Ob}(hs:Srt l){j:Nat}(hj:j<l.length){k:Nat}(hp:Pn l (oat l j).nm k):k=j:=by
 rcases Nat.lt_trichotomy j k with h3|h3|h3
 . have:=hp.lo j h3;rw[Bl.irrefl]at this;cases this
 . exact h3.symm
 . have:=hp.hi k (wC _) (by omega);rw[hs k j h3 hj]at this;cases this
theorem zyr (hn:16<=n){S:Sf}{fh fl:Bool}{mh:Sh}(hv:VSf S)(ht:Tn S.A)(hmh:Mk S.H mh sO){j:Nat}(hj:j<S.H.length) :
  call gl tab n 18 [sfV S (qq fh fl mh),.str (oat S.H j).nm] []=some (.tup [sfV (drp S j (idxT S.A (oat S.H j).tn)) (qq false fl sO),i64 0],[],[]):=by
 obtain⟨d,rfl⟩:=wB hn
 have hH:=hv.hn
 have hR:RL S.H:=fun i hi=>(hv.ho i hi).r
 obtain⟨k,hp,c1⟩:=@zgu gl (d+15) (by omega) fh mh S.H hmh (by omega) (zc4 hv.ho) (oat S.H j).nm
 have ek:=qgl (zc4 hv.ho) hj hp
 subst ek
 have e1:isAt S.H (oat S.H k).nm k=true:=(zkg (zc4 hv.ho) hp).2 ⟨k,hj,rfl⟩
 rw[e1]at c1
 obtain⟨g1,g2⟩:=zi5 hv.va (hv.ho k hj).t
 have hq:I64 (oat S.H k).tn:=by rw[<-g2];have:=ht _ g1;have:=zed hv.va g1;exact⟨by omega,by omega⟩
 have hsz:0<=(oat S.H k).sz/\(oat S.H k).sz<=(aat S.A (idxT S.A (oat S.H k).tn)).u:=by
  rw[hv.hu _ g1,g2];have:=(hR k hj).sz;exact⟨by omega,ztj hR hj⟩
 have htl:tot S<=1099511627776:=Int.le_trans hv.ht hv.c.2
 have ht0:0<=tot S:=(zc2 hv.va (wC _)).1
 have c2:=@zo9 gl (d+15) (by omega) S (qq fh fl mh) ⟨.inr rfl,hmh⟩ hv.va
 have c3:=@zut gl (d+15) (by omega) S fh fl mh hmh (by omega) (zc4 hv.ho) hv.va ht k _ hj g1 g2 hq hsz (tot S) ⟨ht0,by omega⟩ [] 0
 have hx:=zeq hj
 have hmj:=hmh.eq hj
 subst hmj
 have hel:(S.H.eraseIdx k).length=S.H.length-1:=by rw[List.length_eraseIdx,if_pos hj]
 have htk:=zsp (S.H.eraseIdx k) [oV0]
 have hle:(hs (S.H.eraseIdx k)).length=S.H.length-1:=by rw[zaa,hel]
 rw[hel]at htk
 unfold drp
 generalize updA S.A (idxT S.A (oat S.H k).tn) (-(oat S.H k).sz)=A2 at *
 generalize hhe:hs (S.H.eraseIdx k)=he at *
 generalize tot S-(oat S.H k).sz=t2 at *
 generalize oat S.H k=o at *
 rw[zah (fd:=fd18) rfl]
 simp(disch:=apply zq;omega) only[go_sem,simprocAttr,↓Nat.reduceEqDiff,xx,fd18,m18,c1,c2,c3,zaa,hx,htk,hle,List.length_append]
 rw[<-hhe]
end Go.Proofs.S17
namespace Go.Proofs.S17
open Go Go.Ev Go.Proofs Go.Proofs.S17.Q
theorem zoc {l:List Ob}{k:Nat}(hk:k<=l.length)(o:Ob)(i:Nat):oat (insO l k o) i=if i<k then oat l i else if i=k then o else oat l (i-1):=by
 unfold oat insO
 simp only[wE]
 by_cases h1:i<k
 . rw[if_pos h1,List.getElem?_append_left (by simp;omega),List.getElem?_take_of_lt h1]
 . rw[if_neg h1,List.getElem?_append_right (by simp;omega)]
   simp only[wG,Nat.min_eq_left hk]
   by_cases h2:i=k
   . subst h2;rw[if_pos rfl];simp
   . rw[if_neg h2]
     obtain⟨m,rfl⟩:∃m,i=k+(m+1):=⟨i-k-1,by omega⟩
     rw[show k+(m+1)-k=m+1 by omega,List.getElem?_cons_succ,List.getElem?_drop]
     congr 2
theorem z8e {l:List Ob}(hs:Srt l){o:Ob}{k:Nat}(hp:Pn l o.nm k)(hn:¬∃j,j<l.length/\(oat l j).nm=o.nm):Srt (insO l k o):=by
 have hi:∀j,k<=j->j<l.length->Bl.lt o.nm (oat l j).nm=true:=fun j h1 h2=>by
  rcases Bl.tri (oat l j).nm o.nm with h|h|h
  . have:=hp.hi j h1 h2;rw[h]at this;cases this
  . exact absurd ⟨j,h2,h⟩ hn
  . exact h
 intro a b hab hb
 rw[zf3 hp.le]at hb
 rw[zoc hp.le,zoc hp.le]
 by_cases h1:b<k
 . rw[if_pos (show a<k by omega),if_pos h1];exact hs a b hab (by have:=hp.le;omega)
 . rw[if_neg h1]
   by_cases h2:b=k
   . rw[if_pos h2,if_pos (show a<k by omega)];exact hp.lo a (by omega)
   . rw[if_neg h2]
     by_cases h3:a<k
     . rw[if_pos h3]
       exact Bl.trans (hp.lo a h3) (hi (b-1) (by omega) (by omega))
     . rw[if_neg h3]
       by_cases h4:a=k
       . rw[if_pos h4];exact hi (b-1) (by omega) (by omega)
       . rw[if_neg h4];exact hs (a-1) (b-1) (by omega) (by omega)
theorem zrn (t:Int):∀(l m:List Ob),usL t (l++m)=usL t l+usL t m
 | [],m=>by simp[usL]
 | x::l,m=>by rw[List.cons_append,usL,usL,zrn t l m];omega
theorem z7v {l:List Ob}{k:Nat}(o:Ob)(t:Int):usd (insO l k o) t (insO l k o).length=usd l t l.length+if o.tn=t then o.sz else 0:=by
 rw[ziq,ziq,insO,zrn,usL]
 conv=>rhs;rw[<-List.take_append_drop k l,zrn]
 omega
theorem z2l {S:Sf}(hv:VSf S){h:Ob}(hr:ROk h){j:Nat}(hj:j<S.A.length)(hjt:(aat S.A j).t=h.tn){k:Nat}(hp:Pn S.H h.nm k)(hn:¬hasN S h.nm)(hc:tot S+h.sz<=S.c)(hl:S.H.length<4096):VSf (adm S h k j):=by
 have hR:RL S.H:=fun i hi=>(hv.ho i hi).r
 have hlen:=zf3 hp.le h
 have hkv:=hv.va.ok j hj
 have hge:=zrp hv.va (k:=j) (wC _) hj
 have hc':sumU S.A S.A.length+h.sz<=S.c:=hc
 have hcc:=hv.c
 have hsz:=hr.sz
 have he:uerr S.A j h.sz true=0:=by rw[uerr,if_pos rfl,if_neg];have:=hkv.u;omega
 have hsrt:=z8e (zc4 hv.ho) hp hn
 refine⟨hv.c,zmb hv.va hj he,hv.vk,?_,?_,?_,?_⟩
 . show(insO S.H k h).length<=4096
   omega
 . intro i hi
   have hi':i<S.H.length+1:=by rw[<-hlen];exact hi
   refine⟨?_,fun h0=>hsrt (i-1) i (by omega) hi,?_⟩
   . show ROk (oat (insO S.H k h) i)
     rw[zoc hp.le]
     split
     . exact hR i (by have:=hp.le;omega)
     . split
       . exact hr
       . exact hR (i-1) (by omega)
   . have:∃k',k'<S.A.length/\(aat S.A k').t=(oat (insO S.H k h) i).tn:=by
      rw[zoc hp.le]
      split
      . exact(hv.ho i (by have:=hp.le;omega)).t
      . split
        . exact⟨j,hj,hjt⟩
        . exact(hv.ho (i-1) (by omega)).t
     obtain⟨k',hk',e⟩:=this
     exact⟨k',by show k'<(updA _ _ _).length;rw[zaz];exact hk',by show(aat (updA _ _ _) k').t=_;rw[zjh hj];exact e⟩
 . intro k' hk'
   have hk2:k'<S.A.length:=by have:k'<(updA S.A j h.sz).length:=hk';rwa [zaz]at this
   show(aat (updA S.A j h.sz) k').u=usd (insO S.H k h) (aat (updA S.A j h.sz) k').t (insO S.H k h).length
   rw[zjh hj,z7v,zey hj]
   by_cases e:k'=j
   . subst e
     rw[if_pos rfl,if_pos hjt.symm]
     simp only
     rw[hv.hu k' hk2]
   . rw[if_neg e,if_neg,hv.hu k' hk2]
     . omega
     . intro h'
       exact e (zkl hv.va hk2 hj (h'.symm.trans hjt.symm))
 . show sumU (updA S.A j h.sz) (updA S.A j h.sz).length<=S.c
   rw[zaz,zh0 hj,if_pos hj]
   exact hc'
theorem qfv {S:Sf}(h:Tn S.A){o:Ob}{k j:Nat}(hj:j<S.A.length):Tn (adm S o k j).A:=fun i hi=>by
 show(aat (updA _ _ _) i).t<=_
 rw[zjh hj]
 refine h i ?_
 have:i<(updA S.A j o.sz).length:=hi
 rwa [zaz]at this
theorem iv_0 {S:Sf}(hv:VSf S)(ht:Tn S.A)(hnm:∀i,i<S.H.length->(oat S.H i).nm.length<=5000){h:Ob}(ha:hasT S h.tn):IV h (v0 S):=by
 have hw:1<=S.w:=K.isP_pos hv.vk.vp
 exact⟨hv,ht,⟨⟨hw,hv.vk.vw⟩,hv.vk.vn⟩,(fun e he=>by cases he),hnm,by have:=hv.hn;show([]:List Ob).length+S.H.length<=8192;simp;omega,ha⟩
end Go.Proofs.S17
namespace Go.Proofs.S17
open Go Go.Ev Go.Proofs Go.Proofs.S17.Q
variable {gl :Gl} {n:Nat}
theorem qak {S:Sf}{h:Ob}(hc:¬S.c<tot S+h.sz):goV h (v0 S)=false:=by
 unfold goV
 rw[Bool.and_eq_false_iff]
 exact .inl (decide_eq_false hc)
theorem zl3 [Nonempty (H.GlK gl)](hn:16<=n){S:Sf}{h:Ob}{fh fl:Bool}{mh:Sh}(hv:VSf S)(ht:Tn S.A)(hnm:∀i,i<S.H.length->(oat S.H i).nm.length<=5000)(hmh:Mk S.H mh sO)
  (hr:ROk h) (hhn:h.nm.length<=5000) (ha:hasT S h.tn) (hnn:¬hasN S h.nm) (hl:S.H.length<4096) (hc:tot S+h.sz<=S.c) :
  ∃k,Pn S.H h.nm k/\call gl tab n 14 [sfV S (qq fh fl mh),oV h] []=some (.tup [sfV (adm S h k (idxT S.A h.tn)) (qq false fl sO),.lst false .sc [],i64 0],[],[]):=by
 have ht0:0<=tot S:=(zc2 hv.va (wC _)).1
 obtain⟨v,hiv,hg,hF,hb0,hvc,hcl⟩:=@z6e gl (n-1) _ (by omega) S h fh fl mh (iv_0 hv ht hnm ha) hmh hr hhn hnn (by omega) hl
 have e0:v=v0 S:=by rw[hF,zpr (qak (by omega))]
 have he:vEnd h v=0:=by
  rw[e0,vEnd,if_neg (show ¬(v0 S).S.c<tot (v0 S).S+h.sz from fun h'=>by have h2:S.c<tot S+h.sz:=h';omega),if_pos (show(v0 S).w=true from rfl)]
 obtain⟨k,hp,hcall⟩:=zu9 hn hv hmh hr hiv hb0 hcl he
 rw[e0]at hp hcall
 exact⟨k,hp,hcall⟩
theorem z2m {S:Sf}(hv:VSf S)(ht:Tn S.A){h:Ob}(hr:ROk h)(ha:hasT S h.tn)(hnn:¬hasN S h.nm)(hl:S.H.length<4096)(hc:tot S+h.sz<=S.c){k:Nat}(hp:Pn S.H h.nm k) :
  VSf (adm S h k (idxT S.A h.tn))/\Tn (adm S h k (idxT S.A h.tn)).A:=by
 obtain⟨g1,g2⟩:=zi5 hv.va ha
 exact⟨z2l hv hr g1 g2 hp hnn hc hl,qfv ht g1⟩
end Go.Proofs.S17
