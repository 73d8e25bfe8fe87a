/-
  Chapter 17: the specification takes the same object (plain law). No condition.
-/
import Derived.Test.YthipjfnealbheaaGreatDoorW97G22x3
import Derived.Test.YthipjfnealbheaaGreatDoorW97G12x3
set_option linter.all false
open List renaming eraseIdx_of_length_le->wB,getElem?_eq_getElem->wC,take_length->wD,eraseIdx_append_of_length_le->wE,length_take->wF,getD_eq_getElem?_getD->wG,length_singleton->wH,length_eraseIdx->wJ,length_append->wK
open Nat renaming exists_eq_add_of_le'->wL,add_sub_cancel->wM
namespace Go.Proofs.S97
open Go Go.Ev Go.Proofs Go.Proofs.S97.Q
def rls (S:Sf)(a b:Ob):Bool :=
 if cnt S a.nm=cnt S b.nm then(if a.la=b.la then Bl.lt a.nm b.nm else decide (a.la<b.la))else decide (cnt S a.nm<cnt S b.nm)
theorem z04 (S:Sf)(a b:Ob):rls S a b=true↔les S a b<0:=by
 unfold rls les
 generalize cnt S a.nm=p
 generalize cnt S b.nm=q
 generalize a.la=u
 generalize b.la=w
 have z:∀x y:Int,cmpI x y=0↔x=y:=fun x y=>by unfold cmpI;split<;>(try split)<;>omega
 have s:∀x y:Int,cmpI x y<0↔x<y:=fun x y=>by unfold cmpI;split<;>(try split)<;>omega
 have c:Bl.cmp a.nm b.nm<0↔Bl.lt a.nm b.nm=true:=by
  unfold Bl.cmp;split
  . rename_i h;simp[h]
  . rename_i h;split<;>simp[h]
 by_cases h1:p=q
 . rw[if_pos h1,orL,if_pos ((z _ _).2 h1)]
   by_cases h2:u=w
   . rw[if_pos h2,orL,if_pos ((z _ _).2 h2),orL]
     split
     . rename_i h3;rw[<-c,h3,orL]
     . exact c.symm
   . rw[if_neg h2,orL,if_neg (fun h=>h2 ((z _ _).1 h)),decide_eq_true_eq];exact(s _ _).symm
 . rw[if_neg h1,orL,if_neg (fun h=>h1 ((z _ _).1 h)),decide_eq_true_eq];exact(s _ _).symm
def rbs (S:Sf)(t:Int):Nat->Int
 | 0=>-1
 | i+1=>if(oat S.H i).tn=t/\(rbs S t i<0\/rls S (oat S.H i) (oat S.H (rbs S t i).toNat)=true)then(i:Int)else rbs S t i
theorem zxs {S:Sf}{t:Int}{i:Nat}(h1:(oat S.H i).tn=t)(h2:rbs S t i<0\/rls S (oat S.H i) (oat S.H (rbs S t i).toNat)=true):rbs S t (i+1)=i:=by rw[rbs,if_pos ⟨h1,h2⟩]
theorem zxt {S:Sf}{t:Int}{i:Nat}(h:¬((oat S.H i).tn=t/\(rbs S t i<0\/rls S (oat S.H i) (oat S.H (rbs S t i).toNat)=true))):rbs S t (i+1)=rbs S t i:=by rw[rbs,if_neg h]
theorem zhr {a:List Ob}(x:Ob){i:Nat}(h:i<a.length):oat (a++[x]) i=oat a i:=by rw[zpr,if_neg (by omega)]
theorem z1s {S:Sf}{W:List Ob}{m:Mem}(x:Ob):∀{i:Nat},i<W.length->(mst S (W++[x]) m i).1=(mst S W m i).1
 | 0,_=>rfl
 | i+1,h=>by
   have ih:=z1s x (S:=S) (m:=m) (show i<W.length by omega)
   have hl:=znx S W m i
   rw[mst,mst]
   simp only
   rw[ih,zhr x h,zhr x (by omega)]
theorem zns (S:Sf)(t:Int)(m:Mem):∀i,(wl S.H t i=[]/\rbs S t i=-1) \/
  (wl S.H t i≠[]/\0<=rbs S t i/\rbs S t i<i/\oat S.H (rbs S t i).toNat=oat (wl S.H t i) (mst S (wl S.H t i) m ((wl S.H t i).length-1)).1)
 | 0=>.inl ⟨rfl,rfl⟩
 | i+1=>by
   by_cases ht:(oat S.H i).tn=t
   . rw[wl_y ht]
     refine .inr ⟨by simp,?_⟩
     rw[wK,wH,wM]
     rcases zns S t m i with ⟨h1,h2⟩|⟨h1,h2,h3,h4⟩
     . rw[zxs ht (.inl (by omega)),h1]
       refine⟨by omega,by omega,?_⟩
       rfl
     . have hl:0<(wl S.H t i).length:=List.length_pos_iff.2 h1
       obtain⟨w,hw⟩:∃w,(wl S.H t i).length=w+1:=⟨(wl S.H t i).length-1,by omega⟩
       rw[hw,wM]at h4
       have hm:=znx S (wl S.H t i) m w
       have eL:oat (wl S.H t i++[oat S.H i]) (w+1)=oat S.H i:=by rw[zpr,if_pos hw.symm]
       rw[hw,mst,z1s _ (by omega),zhr _ (show(mst S (wl S.H t i) m w).1<(wl S.H t i).length by omega),<-h4,eL]
       simp only
       by_cases hr:rls S (oat S.H i) (oat S.H (rbs S t i).toNat)=true
       . rw[zxs ht (.inr hr),if_pos ((z04 _ _ _).1 hr)]
         refine⟨by omega,by omega,?_⟩
         rw[eL];rfl
       . rw[zxt (by
          rintro ⟨_,h|h⟩;· omega
          . exact hr h),if_neg (fun h=>hr ((z04 _ _ _).2 h))]
         refine⟨h2,by omega,?_⟩
         rw[zhr _ (by omega)];exact h4
   . rw[wl_n ht,zxt (fun h=>ht h.1)]
     rcases zns S t m i with ⟨h1,h2⟩|⟨h1,h2,h3,h4⟩
     . exact .inl ⟨h1,h2⟩
     . exact .inr ⟨h1,h2,by omega,h4⟩
theorem z1b {h:Ob}{v:Vt}:wls v h=[]↔rbs v.S (vtn v.S h) v.S.H.length<0:=by
 rcases zns v.S (vtn v.S h) v.m v.S.H.length with ⟨h1,h2⟩|⟨h1,h2,h3,h4⟩
 . exact⟨fun _=>by omega,fun _=>h1⟩
 . exact⟨fun e=>absurd e h1,fun e=>by omega⟩
theorem z1a {h:Ob}{v:Vt}(hi:IV h v)(hw:wls v h≠[]):rbs v.S (vtn v.S h) v.S.H.length=(jls v h:Nat):=by
 obtain⟨p1,p2,_⟩:=zgg hi hw
 rcases zns v.S (vtn v.S h) v.m v.S.H.length with ⟨h1,h2⟩|⟨h1,h2,h3,h4⟩
 . exact absurd h1 hw
 . have e:oat v.S.H (rbs v.S (vtn v.S h) v.S.H.length).toNat=xls v h:=h4.trans p2
   have e2:=zms (zd1 hi.hv.ho) (show(rbs v.S (vtn v.S h) v.S.H.length).toNat<v.S.H.length by omega)
   have e3:=zms (zd1 hi.hv.ho) p1
   rw[e]at e2
   rw[show oat v.S.H (jls v h)=xls v h from rfl]at e3
   omega
end Go.Proofs.S97
namespace Go.Proofs.S97
open Go Go.Ev Go.Proofs Go.Proofs.S97.Q
variable {gl :Gl} {n:Nat}
structure Free (S:Sf)(h:Ob):Prop where
 r:ROk h
 t:hasT S h.tn
 n:¬hasN S h.nm
 s:h.sz<=S.c
 l:S.H.length<4096
theorem qea (S:Sf)(h:Ob):(∃e,vErr S h e)\/Free S h:=by
 by_cases h1:ROk h
 case neg=>exact .inl ⟨1,.inl ⟨h1,rfl⟩⟩
 by_cases h2:hasT S h.tn
 case neg=>exact .inl ⟨5,.inr (.inl ⟨h1,h2,rfl⟩)⟩
 by_cases h3:hasN S h.nm
 . exact .inl ⟨6,.inr (.inr (.inl ⟨h1,h2,h3,rfl⟩))⟩
 by_cases h4:S.c<h.sz\/4096<=S.H.length
 . exact .inl ⟨2,.inr (.inr (.inr ⟨h1,h2,h3,h4,rfl⟩))⟩
 . exact .inr ⟨h1,h2,h3,by omega,by omega⟩
theorem zzx {S:Sf}{h:Ob}{e:Int}(he:vErr S h e):(e != 0)=true:=by
 rcases he with ⟨_,rfl⟩|⟨_,_,rfl⟩|⟨_,_,_,rfl⟩|⟨_,_,_,_,rfl⟩<;>rfl
noncomputable def vE (S:Sf)(h:Ob):Vt:=runV h S.H.length (v0 S)
theorem zzy {h:Ob}{v:Vt}(he:vEnd h v≠0):(vEnd h v != 0)=true:=by simpa using he
theorem z42 [Nonempty (H.GlK gl)](hn:16<=n){S:Sf}{h:Ob}(hv:VSf S)(ht:Tn S.A)(f:Free S h) :
  IV h (vE S h)/\GI S h (vE S h)/\goV h (vE S h)=false /\
   (vEnd h (vE S h)≠0->call gl tab n 8 [sfV S (qq false false sO),oV h] []=some (.tup [sfV S (qq false false sO),.lst true .sc [],i64 (vEnd h (vE S h))],[],[])) /\
   (vEnd h (vE S h)=0->∃k,Pn (vE S h).S.H h.nm k/\call gl tab n 8 [sfV S (qq false false sO),oV h] []=some (.tup [sfV (adm (vE S h).S h k (idxT (vE S h).S.A h.tn)) (qq false false sO),.lst false .sc (nms (vE S h).o),i64 0],[],[])):=by
 have hnm:∀i,i<S.H.length->(oat S.H i).nm.length<=5000:=fun i hi=>by have:=(hv.ho i hi).r.nl;omega
 have hi0:=iv_0 hv ht hnm f.t
 obtain⟨v,hiv,hg,hF,hb0,hvc,hcl⟩:=@zu3 gl (n-1) _ (by omega) S h false false sO hi0 (.inr rfl) f.r (by have:=f.r.nl;omega) f.n f.s f.l
 have e:vE S h=v:=hF.symm
 have hgi:=qae f.r S.H.length hi0 (gi_0 S h)
 rw[<-hF]at hgi
 rw[e]
 exact⟨hiv,hgi,hg,fun h1=>z41 hn hv (.inr rfl) hcl h1,fun h1=>zqv hn hv (.inr rfl) f.r hiv hb0 hcl h1⟩
theorem qfx {h:Ob}{v:Vt}(he:vEnd h v=0):¬v.S.c<tot v.S+h.sz/\v.w=true:=by
 unfold vEnd at he
 by_cases h1:v.S.c<tot v.S+h.sz
 . rw[if_pos h1]at he;cases he
 . rw[if_neg h1]at he
   refine⟨h1,?_⟩
   by_cases h2:v.w=true
   . exact h2
   . rw[if_neg h2]at he;cases he
theorem qjy {S:Sf}{h:Ob}{v:Vt}(f:Free S h)(hi:IV h v)(g:GI S h v)(he:vEnd h v=0){k:Nat}(hp:Pn v.S.H h.nm k) :
  VSf (adm v.S h k (idxT v.S.A h.tn))/\Tn (adm v.S h k (idxT v.S.A h.tn)).A:=by
 have h1:=(qfx he).1
 have hnn:¬hasN v.S h.nm:=fun⟨j,hj,e⟩=>f.n (by
  obtain⟨i,h3,h4⟩:=zpt (g.hm _ (zib hj))
  exact⟨i,h3,by rw[h4];exact e⟩)
 exact zuz hi.hv hi.ht f.r hi.ha hnn (by have:=g.ln;have:=f.l;omega) (by omega) hp
end Go.Proofs.S97
namespace Go.Proofs.S97
open Go Go.Ev Go.Proofs Go.Proofs.S97.Q
variable {gl :Gl} {n:Nat}
theorem zjv [Nonempty (H.GlR gl)](h:10<=n){S:Sf}{q:Fl}(hk:KOk S){x:List UInt8}(hx:x.length<=5000):call gl tab n 65 [skV S q,.str x] []=some (i64 (cnt S x),[],[]):=by
 have e:((S.w.toNat:Nat):Int)=S.w:=by have:=hk.w;omega
 have hw:=hk.w
 have hl:=hk.l
 have:=@K.rcount_at gl n _ h x hx S.w.toNat (by omega) S.s S.a q.fl S.L (by omega)
 rw[e]at this
 exact this
theorem zvj [Nonempty (H.GlR gl)](h:11<=n){S:Sf}{q:Fl}(hk:KOk S){a b:Ob}(ha:a.nm.length<=5000)(hb:b.nm.length<=5000) :
  call gl tab n 64 [skV S q,oV a,oV b] []=some (.bool (rls S a b),[],[]):=by
 obtain⟨d,rfl⟩:=wL h
 have c1:=@zjv gl (d+10) _ (by omega) S q hk a.nm ha
 have c2:=@zjv gl (d+10) _ (by omega) S q hk b.nm hb
 unfold rls
 generalize cnt S a.nm=x at *
 generalize cnt S b.nm=y at *
 rw[zaf (fd:=fd64) rfl]
 by_cases h1:x=y
 . have e1:(x != y)=false:=by simpa using h1
   rw[if_pos h1]
   by_cases h2:a.la=b.la
   . have e2:(a.la != b.la)=false:=by simpa using h2
     rw[if_pos h2]
     simp(disch:=apply zq;omega) only[go_sem,simprocAttr,↓Nat.reduceEqDiff,xx,fd64,m64,c1,c2,e1,e2,oV,zww]
   . have e2:(a.la != b.la)=true:=by simpa using h2
     rw[if_neg h2]
     simp(disch:=apply zq;omega) only[go_sem,simprocAttr,↓Nat.reduceEqDiff,xx,fd64,m64,c1,c2,e1,e2,oV]
 . have e1:(x != y)=true:=by simpa using h1
   rw[if_neg h1]
   simp(disch:=apply zq;omega) only[go_sem,simprocAttr,↓Nat.reduceEqDiff,xx,fd64,m64,c1,c2,e1,oV]
def L30 :MC:=match m30 with| .seq _ (.seq _ (.seq (.seq _ (.block _ (.loop _ b))) _))=>b|_=>.skip
def S30 (f:Bool)(m:Sh)(l:List Ob)(i:Nat):St:=⟨[.set 4 (i64 i),.set 3 (.sl 5003 [] 0 i),.set 0 (.lst f m (hs l))],[(5003,.grow .sc (nms (l.take i)))]⟩
theorem z02 (h:1<=n){f:Bool}{m:Sh}{l:List Ob}(hm:Mk l m sO)(hl:l.length<=8192):call gl tab n 30 [.lst f m (hs l)] []=some (.lst false .sc (nms l),[],[]):=by
 obtain⟨d,rfl⟩:=wL h
 have hst:∀i,i<l.length->za1 [.slot 0,.own 3 5003 .sc,.slot 4] (evC gl (call gl tab d) L30 (S30 f m l i))=some (S30 f m l (i+1)):=fun i hi=>by
  have hx:=zc7 hi
  obtain rfl:=hm.eq hi
  have e:=qhj hi
  have hlt:(l.take i).length=i:=by rw[wF];omega
  have e2:=zvt (l.take i) (.str (oat l i).nm) hlt
  have e3:(nms (l.take i)).length=i:=by rw[zbj,hlt]
  have hlim:i+1<=LIM:=by unfold LIM;omega
  simp(disch:=apply zq;omega) only[go_sem,simprocAttr,↓Nat.reduceEqDiff,xx,L30,m30,S30,zaa,hx,e,e2,e3,hlim]
 have e0:nms []=[]:=rfl
 have ee:nms (l.take l.length)=nms l:=by rw[wD]
 have e4:(nms l).take l.length=nms l:=by rw[<-zbj];exact wD
 simp only[L30,m30]at hst
 rw[zaf (fd:=fd30) rfl]
 simp(disch:=apply zq;omega) only[go_sem,simprocAttr,↓Nat.reduceEqDiff,xx,fd30,m30,zaa]
 rw[zaj (S30 f m l) l.length (by unfold LF;omega)]
 . simp(disch:=apply zq;omega) only[go_sem,simprocAttr,↓Nat.reduceEqDiff,xx,S30,zaa,ee,e4,zbj]
 . simp(disch:=apply zq;omega) only[go_sem,simprocAttr,↓Nat.reduceEqDiff,xx,S30,zaa,e0]
 . exact hst
 . simp(disch:=apply zq;omega) only[go_sem,simprocAttr,↓Nat.reduceEqDiff,xx,S30,zaa]
theorem qc0 {l:List Ob}{i:Nat}(h:i<l.length):(nms l)[i]? =some (.str (oat l i).nm):=by
 unfold nms oat
 rw[List.getElem?_map,wG,wC h];rfl
def L10n :MC:=match m10 with| .seq _ (.seq _ (.seq (.seq _ (.block _ (.loop _ b))) _))=>b|_=>.skip
def S10n (f f':Bool)(l:List Ob)(i:Nat):St:=⟨[.set 5 (i64 i),.set 1 (.lst f' .sc (nms l)),.set 0 (.lst f .sc (nms l))],[]⟩
theorem zpa (h:1<=n){f f':Bool}{l:List Ob}(hl:l.length<2^60):call gl tab n 10 [.lst f .sc (nms l),.lst f' .sc (nms l)] []=some (.bool true,[],[]):=by
 obtain⟨d,rfl⟩:=wL h
 have hst:∀i,i<l.length->za1 [.slot 0,.slot 1,.slot 5] (evC gl (call gl tab d) L10n (S10n f f' l i))=some (S10n f f' l (i+1)):=fun i hi=>by
  have hx:=qc0 hi
  have e:((oat l i).nm != (oat l i).nm)=false:=by simp
  simp(disch:=apply zq;omega) only[go_sem,simprocAttr,↓Nat.reduceEqDiff,xx,L10n,m10,S10n,zbj,hx,e]
 simp only[L10n,m10]at hst
 rw[zaf (fd:=fd10) rfl]
 simp(disch:=apply zq;omega) only[go_sem,simprocAttr,↓Nat.reduceEqDiff,xx,fd10,m10,zbj]
 rw[zaj (S10n f f' l) l.length (by unfold LF;omega)]
 . simp(disch:=apply zq;omega) only[go_sem,simprocAttr,↓Nat.reduceEqDiff,xx,S10n,zbj]
 . simp(disch:=apply zq;omega) only[go_sem,simprocAttr,↓Nat.reduceEqDiff,xx,S10n,zbj]
 . exact hst
 . simp(disch:=apply zq;omega) only[go_sem,simprocAttr,↓Nat.reduceEqDiff,xx,S10n,zbj]
theorem wo_s {l:List Ob}{j i:Nat}(hi:i<l.length)(hj:j<l.length):(l.take (i+1)).eraseIdx j=if i=j then(l.take i).eraseIdx j else(l.take i).eraseIdx j++[oat l i]:=by
 have e:l.take (i+1)=l.take i++[oat l i]:=by
  rw[List.take_succ,wC hi];unfold oat;rw[wG,wC hi];rfl
 have hl:(l.take i).length=i:=by rw[wF];omega
 rw[e]
 by_cases h:i=j
 . subst h
   rw[if_pos rfl,wE (by omega),hl,Nat.sub_self,wB (l:=l.take i) (by omega)]
   simp
 . rw[if_neg h]
   by_cases h2:j<i
   . rw[List.eraseIdx_append_of_lt_length (by omega)]
   . rw[wE (by omega),hl,wB (l:=l.take i) (by omega),wB (by simp;omega)]
theorem qfv {l:List Ob}{j i:Nat}(hi:i<=l.length):((l.take i).eraseIdx j).length<=i:=by
 rw[wJ,wF];split<;>omega
abbrev Zs0 :AV:=.agg [i64 0,.lst true .sc [],.lst true .sc [],.agg [i64 0,i64 0,i64 0,.lst true .sc []]]
def L43w :MC:=match m43 with| .seq _ (.seq _ (.seq _ (.seq (.seq _ (.block _ (.loop _ b))) _)))=>b|_=>.skip
def S43w (S:Sf)(q:Fl)(j:Nat)(i:Nat):St :=
 ⟨[.set 7 (i64 i),.set 6 (.sl 5006 [] 0 ((S.H.take i).eraseIdx j).length),.set 5 (.ptr 5 []),.set 4 (.ptr 4 []),.set 2 (.ptr 2 []),.set 1 (i64 j)],
   [(5,.fix sO (oV (oat S.H j))),(4,.fix shB Zs0),(2,.fix shB (sfV S q)),(5006,.grow sO (hs ((S.H.take i).eraseIdx j)))]⟩
theorem qbj {d:Nat}{S:Sf}{q:Fl}(hq:Mk S.H q.mh sO)(hl:S.H.length<=4096){j:Nat}(hj:j<S.H.length)(i:Nat)(hi:i<S.H.length) :
  za1 [.slot 1,.slot 2,.slot 4,.slot 5,.own 6 5006 sO,.slot 7,.key 2,.key 4,.key 5] (evC gl (call gl tab d) L43w (S43w S q j i))=some (S43w S q j (i+1)):=by
 have hx:=zc7 hi
 have hm:=hq.eq hi
 have e:=wo_s hi hj
 have hw:=qfv (l:=S.H) (j:=j) (show i<=S.H.length by omega)
 unfold S43w
 rw[e]
 by_cases h:i=j
 . subst h
   have e1:((i:Int) != (i:Int))=false:=by simp
   rw[if_pos rfl]
   generalize (S.H.take i).eraseIdx i=w at *
   generalize oat S.H i=o at *
   simp(disch:=apply zq;omega) only[go_sem,simprocAttr,↓Nat.reduceEqDiff,xx,L43w,m43,zaa,hx,e1,hm]
 . have e1:((i:Int) != (j:Int))=true:=bne_iff_ne.2 (fun h'=>h (by omega))
   rw[if_neg h]
   have ha:=zg9 ((S.H.take i).eraseIdx j) (oat S.H i)
   generalize (S.H.take i).eraseIdx j=w at *
   have hlim:w.length+1<=LIM:=by unfold LIM;omega
   have htk:=ze2 w (oV (oat S.H i))
   generalize oat S.H i=o at *
   rw[wK,wH]
   simp(disch:=apply zq;omega) only[go_sem,simprocAttr,↓Nat.reduceEqDiff,xx,L43w,m43,zaa,hx,e1,hm,hlim,htk,ha,oV]
theorem zpi (h:1<=n){f:Bool}{m:Sh}{l:List A3}(hm:Mk l m sA)(hv:VA l){k:Nat}(hk:k<l.length){t:Int}(hkt:(aat l k).t=t):call gl tab n 29 [.lst f m (ac l),i64 t] []=some (i64 k,[],[]):=by
 have hn:=hv.n
 obtain⟨k',h1,h2,h3,c⟩:=@zpj gl n h f m l hm (by omega) t
 have h4:k'<l.length:=by
  rcases Nat.lt_or_ge k' l.length with h'|h'
  . exact h'
  . exact absurd hkt (h2 k (by omega))
 have e:=zgv hv hk h4 (hkt.trans (h3 h4).symm)
 subst e
 rw[ix,if_pos h4]at c
 exact c
theorem zlj (l:List A3):(ac l).take l.length=ac l:=by rw[<-zab];exact wD
set_option maxHeartbeats 1000000 in
theorem zni (h:2<=n){S:Sf}{fh fl:Bool}{mh:Sh}(hv:VSf S)(hmh:Mk S.H mh sO){j k:Nat}(hj:j<S.H.length)(hk:k<S.A.length)(hkt:(aat S.A k).t=(oat S.H j).tn) :
  call gl tab n 43 [sfV S (qq fh fl mh),i64 j] []=some (sfV (drp S j k) (qq false fl sO),[],[]):=by
 obtain⟨d,rfl⟩:=wL h
 have hH:=hv.hn
 have hA:=hv.va.n
 have hR:RL S.H:=fun i hi=>(hv.ho i hi).r
 have hst:=fun i hi=>@qbj gl (d+1) S (qq fh fl mh) hmh hH j hj i hi
 have hxj:=zc7 hj
 have hmj:=hmh.eq hj
 subst hmj
 have etk:S.H.take S.H.length=S.H:=wD
 have hel:(S.H.eraseIdx j).length=S.H.length-1:=by rw[wJ,if_pos hj]
 have hRe:RL (S.H.eraseIdx j):=fun i hi=>by
  rw[zex hj];split
  . exact hR i (by omega)
  . exact hR (i+1) (by omega)
 have c1:=@zpi gl (d+1) (by omega) false sA S.A (.inr rfl) hv.va k hk _ hkt
 have c2:=@zs5 gl (d+1) (by omega) false sO (S.H.eraseIdx j) (.inr rfl) (by omega) hRe (oat S.H j).tn
 have hus:usd (S.H.eraseIdx j) (oat S.H j).tn (S.H.eraseIdx j).length=(aat S.A k).u+-(oat S.H j).sz:=by
  rw[hel,zll hj,if_pos rfl,hv.hu k hk,hkt];omega
 rw[hus]at c2
 have hxk:=zde hk
 have e1:=zs9 S.A k (-(oat S.H j).sz)
 have e2:=zlj (updA S.A k (-(oat S.H j).sz))
 rw[zav]at e2
 have e3:=zlj S.A
 have e4:=zgk (S.H.eraseIdx j)
 have hsz:=(hR j hj).sz
 have hlimA:S.A.length<=LIM:=by unfold LIM;omega
 unfold drp
 simp only[L43w,m43]at hst
 rw[zaf (fd:=fd43) rfl]
 simp(disch:=apply zq;omega) only[go_sem,simprocAttr,↓Nat.reduceEqDiff,xx,fd43,m43,zaa,hxj]
 rw[zaj (S43w S (qq fh fl sO) j) S.H.length (by unfold LF;omega)]
 . rw[S43w,etk]
   generalize S.H.eraseIdx j=D at *
   simp(disch:=apply zq;omega) only[go_sem,simprocAttr,↓Nat.reduceEqDiff,xx,zaa,zab,c1,c2,hxk,e1,e2,e3,e4,hlimA,zav]
 . simp(disch:=apply zq;omega) only[go_sem,simprocAttr,↓Nat.reduceEqDiff,xx,S43w,oV,zc6,List.eraseIdx_nil,List.take_zero,List.length_nil]
 . exact hst
 . simp(disch:=apply zq;omega) only[go_sem,simprocAttr,↓Nat.reduceEqDiff,xx,S43w,zaa]
end Go.Proofs.S97
