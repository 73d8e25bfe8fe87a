/-
  Chapter 17: what a search does next (plain law, and whom it takes from). No condition.
-/
import Derived.Test.YthipjfnealbheaaGreatDoorW97G18x3
set_option linter.all false
open List renaming length_pos_iff->wB,getD_eq_getElem?_getD->wC,getElem?_eq_getElem->wD,length_eraseIdx->wE,findIdx_eq->wF
open Bool renaming true_and->wG,not_false->wH,false_and->wJ,not_true->wK,false_or->wL,true_or->wM
namespace Go.Proofs.S97
open Go Go.Ev Go.Proofs Go.Proofs.S97.Q
variable {gl :Gl} {n:Nat}
open Go.Mp (esN fN MOk)
def idxN (l:List Ob)(x:List UInt8):Nat:=l.findIdx fun o=>decide (o.nm=x)
def idxT (l:List A3)(t:Int):Nat:=l.findIdx fun a=>decide (a.t=t)
theorem z9u {l:List Ob}{j:Nat}(h:j<l.length):oat l j=l[j]:=by unfold oat;rw[wC,wD h];rfl
theorem qar {l:List A3}{j:Nat}(h:j<l.length):aat l j=l[j]:=by unfold aat;rw[wC,wD h];rfl
theorem zms {l:List Ob}(hs:Srt l){j:Nat}(hj:j<l.length):idxN l (oat l j).nm=j:=by
 unfold idxN
 rw[wF hj]
 refine⟨by rw[<-z9u hj];simp,fun i hi=> ?_⟩
 rw[<-z9u (show i<l.length by omega)]
 exact decide_eq_false (Bl.ne (hs i j hi hj))
theorem qd1 {l:List A3}(hv:VA l){k:Nat}(hk:k<l.length):idxT l (aat l k).t=k:=by
 unfold idxT
 rw[wF hk]
 refine⟨by rw[<-qar hk];simp,fun i hi=> ?_⟩
 rw[<-qar (show i<l.length by omega)]
 exact decide_eq_false fun e=>by have:=zgv hv (show i<l.length by omega) hk e;omega
theorem zic {l:List A3}(hv:VA l){t:Int}(h:∃k,k<l.length/\(aat l k).t=t):idxT l t<l.length/\(aat l (idxT l t)).t=t:=by
 obtain⟨k,hk,rfl⟩:=h
 rw[qd1 hv hk];exact⟨hk,rfl⟩
open Classical in
noncomputable def lvl (l:List S2)(c:Int):Int:=if h:∃m,Lv l c m then Classical.choose h else 0
theorem zvw {l:List S2}(hv:VS l){c:Int}(hc:0<=c/\c<=1099511627776):Lv l c (lvl l c):=by
 have h:=z10 hv hc
 unfold lvl
 rw[dif_pos h]
 exact Classical.choose_spec h
noncomputable def fgs (S:Sf)(h:Ob):List Int:=gets (wnt S.A (idxT S.A h.tn) h.sz) (lvl (wnt S.A (idxT S.A h.tn) h.sz) S.c) S.c S.A.length
def own (S:Sf)(h:Ob):Prop:=nat (fgs S h) (idxT S.A h.tn)<(aat S.A (idxT S.A h.tn)).u+h.sz
open Classical in
noncomputable def vtn (S:Sf)(h:Ob):Int:=if own S h then h.tn else(bst S.A (fgs S h) (idxT S.A h.tn) S.A.length).1
theorem zlk (hn:12<=n){S:Sf}(hv:VSf S)(ht:Tn S.A){h:Ob}(hr:ROk h)(ha:∃k,k<S.A.length/\(aat S.A k).t=h.tn)(hf:S.c<sumU S.A S.A.length+h.sz) :
  call gl tab n 54 [i64 S.c,.lst false sA (ac S.A),i64 h.tn,i64 h.sz] []=some (if nat (fgs S h) (idxT S.A h.tn)<(aat S.A (idxT S.A h.tn)).u+h.sz then .tup [i64 0,i64 160]else .tup [i64 (bst S.A (fgs S h) (idxT S.A h.tn) S.A.length).1,i64 0],[],[]):=by
 obtain⟨hk,hkt⟩:=zic hv.va ha
 have hq:I64 h.tn:=by rw[<-hkt];have:=ht _ hk;have:=zer hv.va hk;exact⟨by omega,by omega⟩
 have hsz:0<=h.sz/\h.sz<=1099511627776:=by have:=hr.sz;omega
 obtain⟨k',b,h1,h2,h3,c⟩:=@place_at gl (n-1) (by omega) S.A hv.va ht h.tn hq
 cases b with
 | false=>exact absurd hkt (h3 rfl _ hk)
 | true =>
   obtain⟨h4,h5⟩:=h2 rfl
   have e:=zgv hv.va hk h4 (hkt.trans h5.symm)
   rw[<-e]at c
   exact zxd hn hv.va hv.c hsz hk (zvw (zd0 hv.va hsz) hv.c) hf c
structure Vt where
 S:Sf
 m:Mem
 o:List Ob
 w:Bool
 b:Bool
noncomputable def wls (v:Vt)(h:Ob):List Ob:=wl v.S.H (vtn v.S h) v.S.H.length
noncomputable def mls (v:Vt)(h:Ob):Nat×Mem:=mst v.S (wls v h) v.m ((wls v h).length-1)
noncomputable def jls (v:Vt)(h:Ob):Nat:=idxN v.S.H (oat (wls v h) (mls v h).1).nm
noncomputable def xls (v:Vt)(h:Ob):Ob:=oat v.S.H (jls v h)
noncomputable def kls (v:Vt)(h:Ob):Nat:=idxT v.S.A (xls v h).tn
noncomputable def nxt (h:Ob)(v:Vt):Vt :=
 ⟨drp v.S (jls v h) (kls v h),if v.w=true/\(xls v h).tn=h.tn then ask2 v.S (xls v h) h (mls v h).2 else(mls v h).2,v.o++[xls v h],
   v.w&&(!decide ((xls v h).tn=h.tn)||decide (cnt v.S (xls v h).nm<cnt v.S h.nm)),true⟩
abbrev tot (S:Sf):Int:=sumU S.A S.A.length
open Classical in
noncomputable def goV (h:Ob)(v:Vt):Bool:=decide (v.S.c<tot v.S+h.sz)&&decide (wls v h≠[])
structure IV (h:Ob)(v:Vt):Prop where
 hv:VSf v.S
 ht:Tn v.S.A
 hk:KOk v.S
 hm:MOk (cnt v.S) v.m.1
 nm:∀i,i<v.S.H.length->(oat v.S.H i).nm.length<=5000
 ol:v.o.length+v.S.H.length<=8192
 ha:∃k,k<v.S.A.length/\(aat v.S.A k).t=h.tn
theorem zgg {h:Ob}{v:Vt}(hi:IV h v)(hw:wls v h≠[]):jls v h<v.S.H.length/\oat (wls v h) (mls v h).1=xls v h/\kls v h<v.S.A.length/\(aat v.S.A (kls v h)).t=(xls v h).tn/\(xls v h).tn=vtn v.S h:=by
 have hl:0<(wls v h).length:=wB.2 hw
 have hle:=znx v.S (wls v h) v.m ((wls v h).length-1)
 have hin:=zib (show(mls v h).1<(wls v h).length by unfold mls;omega)
 have hin2:=hin
 rw[wls,zqw]at hin
 obtain⟨j,h1,h2,h3⟩:=hin
 have e:jls v h=j:=by
  rw[jls,show wls v h=wl v.S.H (vtn v.S h) v.S.H.length from rfl,<-h3,zms (zd1 hi.hv.ho) h1]
 have ex:xls v h=oat v.S.H j:=by rw[xls,e]
 obtain⟨g1,g2⟩:=zic hi.hv.va (hi.hv.ho j h1).t
 rw[<-ex]at g1 g2
 refine⟨by rw[e];exact h1,?_,g1,g2,by rw[ex];exact h2⟩
 rw[ex];exact h3.symm
theorem zmo {h:Ob}{v:Vt}(hi:IV h v)(hw:wls v h≠[]):IV h (nxt h v):=by
 obtain⟨h1,h2,h3,h4,_⟩:=zgg hi hw
 have hlen:(v.S.H.eraseIdx (jls v h)).length=v.S.H.length-1:=by rw[wE,if_pos h1]
 refine⟨z33 hi.hv h1 h3 h4,qi2 hi.ht h3,⟨hi.hk.w,hi.hk.l⟩,?_,?_,?_,?_⟩
 . show MOk (cnt v.S) (if v.w=true/\(xls v h).tn=h.tn then ask2 v.S (xls v h) h (mls v h).2 else(mls v h).2).1
   split
   . exact z4z (zi8 hi.hm _)
   . exact zi8 hi.hm _
 . intro i hi'
   have hi2:i<(v.S.H.eraseIdx (jls v h)).length:=hi'
   show(oat (v.S.H.eraseIdx (jls v h)) i).nm.length<=5000
   rw[zex h1]
   split
   . exact hi.nm i (by omega)
   . exact hi.nm (i+1) (by omega)
 . show(v.o++[xls v h]).length+(v.S.H.eraseIdx (jls v h)).length<=8192
   rw[List.length_append,hlen]
   have:=hi.ol
   simp;omega
 . obtain⟨k,hk,e⟩:=hi.ha
   exact⟨k,by show k<(updA _ _ _).length;rw[zav];exact hk,by show(aat (updA _ _ _) k).t=_;rw[zlm h3];exact e⟩
theorem zo2 {h:Ob}{v:Vt}(hi:IV h v)(hw:wls v h≠[]):tot (nxt h v).S=tot v.S-(xls v h).sz:=by
 obtain⟨h1,h2,h3,h4,_⟩:=zgg hi hw
 show sumU (updA v.S.A (kls v h) (-(xls v h).sz)) (updA v.S.A (kls v h) (-(xls v h).sz)).length=sumU v.S.A v.S.A.length-(xls v h).sz
 rw[zav,zk6 h3,if_pos h3];omega
theorem zi9 {h:Ob}{v:Vt}(hi:IV h v)(hw:wls v h≠[]):(nxt h v).S.H.length+1=v.S.H.length:=by
 obtain⟨h1,_⟩:=zgg hi hw
 show(v.S.H.eraseIdx (jls v h)).length+1=_
 rw[wE,if_pos h1];omega
end Go.Proofs.S97
namespace Go.Proofs.S97
open Go Go.Ev Go.Proofs Go.Proofs.S97.Q
variable {gl :Gl} {n:Nat}
open Go.Mp (esN fN MOk)
def L37 :MC:=match m22 with| .seq _ (.scope (.seq _ (.seq _ (.seq _ (.seq _ (.seq _ (.seq (.block _ (.loop _ b)) _)))))))=>b|_=>.skip
def S37A (h:Ob)(fh fl:Bool)(mh:Sh)(v:Vt):St :=
 ⟨[.set 9 (.bool v.w),.set 8 (.sl 5008 [] 0 v.o.length),.set 3 (.ptr 3 []),.set 0 (.ptr 100000 [])],[(100001,.mp (esN v.m.1) v.m.2),(100000,.fix shX (XA v.S ⟨false,fh,fl,sA,mh⟩ (tot v.S))),(3,.fix sO (oV h)),(5008,.grow sO (hs v.o))]⟩
def S37B (h:Ob)(fh fl:Bool)(mh:Sh)(v:Vt):St :=
 ⟨[.set 9 (.bool v.w),.set 8 (.sl 5008 [] 0 v.o.length),.set 3 (.ptr 3 []),.set 0 (.ptr 100000 [])],[(100001,.mp (esN v.m.1) v.m.2),(100000,.fix shX (XR v.S v.S.A ⟨false,fh,fl,sA,mh⟩ (tot v.S) 8002 v.S.H.length 100001)),(8002,.grow sO (hs v.S.H++[oV0])),(3,.fix sO (oV h)),(5008,.grow sO (hs v.o))]⟩
set_option maxHeartbeats 4000000 in
theorem qbl [Nonempty (H.GlK gl)]{d:Nat}{h:Ob}(hr:ROk h)(hhn:h.nm.length<=5000){fh fl:Bool}{mh:Sh}{v:Vt}(hi:IV h v)(hmh:Mk v.S.H mh sO)(hf:v.S.c<tot v.S+h.sz)(hw:wls v h≠[]) :
  za1 [.slot 0,.slot 3,.own 8 5008 (.st [.sc,.sc,.sc,.sc]),.slot 9,.key 3,.mv 100000 [0,2] 8002] (evC gl (call gl tab (d+14)) L37 (S37A h fh fl mh v))=some (S37B h fh fl mh (nxt h v)):=by
 obtain⟨p1,p2,p3,p4,p5⟩:=zgg hi hw
 have i2:=zmo hi hw
 have t2:=zo2 hi hw
 have l2:=zi9 hi hw
 have htl:tot v.S<=1099511627776:=Int.le_trans hi.hv.ht hi.hv.c.2
 have ht0:0<=tot v.S:=(zcb hi.hv.va (Nat.le_refl _)).1
 have hsz:=hr.sz
 have hcc:=hi.hv.c
 have c1:=@zlk gl (d+14) (by omega) v.S hi.hv hi.ht h hr hi.ha hf
 have c2:=@z5e gl (d+14) _ (by omega) v.S fh fl mh hi.hk hmh hi.hv hi.ht hi.nm (vtn v.S h) (tot v.S) ⟨by omega,by omega⟩ v.m hi.hm (wls v h) rfl (wB.2 hw) (jls v h) (kls v h) p1 p2 p3 p4
 have hxn:(xls v h).nm.length<=5000:=hi.nm _ p1
 have c3:=@zf3 gl (d+14) _ (by omega) (nxt h v).S ⟨false,fh,fl,sA,mh⟩ [oV0] i2.hk (xls v h).nm hxn (tot (nxt h v).S) (mls v h).2 (zi8 hi.hm _)
 have c4:=@zf3 gl (d+14) _ (by omega) (nxt h v).S ⟨false,fh,fl,sA,mh⟩ [oV0] i2.hk h.nm hhn (tot (nxt h v).S) (Mp.ask (cnt v.S) (xls v h).nm (mls v h).2) (MOk.ask (zi8 hi.hm _))
 rw[show(vtn v.S h)=(vtn v.S h)from rfl]at c2
 have e1:updA v.S.A (kls v h) (-(oat v.S.H (jls v h)).sz)=(nxt h v).S.A:=rfl
 have e2:v.S.H.eraseIdx (jls v h)=(nxt h v).S.H:=rfl
 have e3:v.S.H.length-1=(nxt h v).S.H.length:=by omega
 have e4:tot v.S-(oat v.S.H (jls v h)).sz=tot (nxt h v).S:=t2.symm
 have e5:oat v.S.H (jls v h)=xls v h:=rfl
 rw[e4,e1,e2,e3,e5]at c2
 have m1:(mst v.S (wls v h) v.m ((wls v h).length-1)).2=(mls v h).2:=rfl
 rw[m1]at c2
 have n1:(nxt h v).o=v.o++[xls v h]:=rfl
 have n2:(nxt h v).w=(v.w&&(!decide ((xls v h).tn=h.tn)||decide (cnt v.S (xls v h).nm<cnt v.S h.nm))):=rfl
 have n3:(nxt h v).m=if v.w=true/\(xls v h).tn=h.tn then ask2 v.S (xls v h) h (mls v h).2 else(mls v h).2:=rfl
 have n4:(nxt h v).S.c=v.S.c:=rfl
 have n5:∀(A:List A3) (q:Fl) (t:Int) (kh nh km:Nat),XR v.S A q t kh nh km=XR (nxt h v).S A q t kh nh km:=fun _ _ _ _ _ _=>rfl
 have n6:cnt (nxt h v).S=cnt v.S:=rfl
 have n7:∀t,XB (nxt h v).S ⟨false,fh,fl,sA,mh⟩ t=XR (nxt h v).S (nxt h v).S.A ⟨false,fh,fl,sA,mh⟩ t 100001 (nxt h v).S.H.length 100002:=fun _=>rfl
 have a2:ask2 v.S (xls v h) h (mls v h).2=Mp.ask (cnt v.S) h.nm (Mp.ask (cnt v.S) (xls v h).nm (mls v h).2):=rfl
 rw[n6,n7]at c3 c4
 rw[n5]at c2
 have htk:=zye (nxt h v).S.H [oV0]
 have hap:=zg9 v.o (xls v h)
 have htk2:=ze2 v.o (oV (xls v h))
 have hol:=hi.ol
 have hlim:=zjc (show v.o.length<=8192 by omega)
 unfold S37A
 try unfold S37B
 rw[n1,n2,n3]
 have hc1:(call gl tab (d+14) 54 [i64 v.S.c,.lst false sA (ac v.S.A),i64 h.tn,i64 h.sz] []=some (.tup [i64 0,i64 160],[],[])/\vtn v.S h=h.tn)\/call gl tab (d+14) 54 [i64 v.S.c,.lst false sA (ac v.S.A),i64 h.tn,i64 h.sz] []=some (.tup [i64 (vtn v.S h),i64 0],[],[]):=by
  by_cases ho:own v.S h
  . left
    refine⟨?_,by rw[vtn,if_pos ho]⟩
    unfold own at ho
    rw[if_pos ho]at c1;exact c1
  . right
    have:vtn v.S h=(bst v.S.A (fgs v.S h) (idxT v.S.A h.tn) v.S.A.length).1:=by rw[vtn,if_neg ho]
    rw[this]
    unfold own at ho
    rw[if_neg ho]at c1;exact c1
 clear c1
 have hcS:(nxt h v).S.c=v.S.c:=rfl
 generalize nxt h v=v2 at *
 generalize hx:xls v h=x at *
 generalize (mls v h).2=m2 at *
 generalize vtn v.S h=t at *
 rcases hc1 with ⟨c1,ht⟩|c1
 . rw[ht]at c2
   clear ht
   cases hww:v.w with
   | false =>
     rw[if_neg (fun h=>by cases h.1),wJ]
     simp(disch:=apply zq;omega) only[go_sem,simprocAttr,↓Nat.reduceEqDiff,xx,L37,m22,c1,c2,htk,hap,htk2,hlim,zaa]
   | true =>
     by_cases hs:x.tn=h.tn
     . rw[if_pos ⟨rfl,hs⟩,wG,decide_eq_true hs,wK,wL,a2]
       have es:(x.tn != h.tn)=false:=by rw[hs];simp
       simp(disch:=apply zq;omega) only[go_sem,simprocAttr,↓Nat.reduceEqDiff,xx,L37,m22,c1,c2,c3,c4,htk,hap,htk2,hlim,zaa,es]
     . rw[if_neg (fun h=>hs h.2),wG,decide_eq_false hs,wH,wM]
       have es:(x.tn != h.tn)=true:=by simpa using hs
       simp(disch:=apply zq;omega) only[go_sem,simprocAttr,↓Nat.reduceEqDiff,xx,L37,m22,c1,c2,htk,hap,htk2,hlim,zaa,es]
 . clear p5
   cases hww:v.w with
   | false =>
     rw[if_neg (fun h=>by cases h.1),wJ]
     simp(disch:=apply zq;omega) only[go_sem,simprocAttr,↓Nat.reduceEqDiff,xx,L37,m22,c1,c2,htk,hap,htk2,hlim,zaa]
   | true =>
     by_cases hs:x.tn=h.tn
     . rw[if_pos ⟨rfl,hs⟩,wG,decide_eq_true hs,wK,wL,a2]
       have es:(x.tn != h.tn)=false:=by rw[hs];simp
       simp(disch:=apply zq;omega) only[go_sem,simprocAttr,↓Nat.reduceEqDiff,xx,L37,m22,c1,c2,c3,c4,htk,hap,htk2,hlim,zaa,es]
     . rw[if_neg (fun h=>hs h.2),wG,decide_eq_false hs,wH,wM]
       have es:(x.tn != h.tn)=true:=by simpa using hs
       simp(disch:=apply zq;omega) only[go_sem,simprocAttr,↓Nat.reduceEqDiff,xx,L37,m22,c1,c2,htk,hap,htk2,hlim,zaa,es]
set_option maxHeartbeats 4000000 in
theorem qbk [Nonempty (H.GlK gl)]{d:Nat}{h:Ob}(hr:ROk h)(hhn:h.nm.length<=5000){fh fl:Bool}{mh:Sh}{v:Vt}(hi:IV h v)(hf:v.S.c<tot v.S+h.sz)(hw:wls v h≠[]) :
  za1 [.slot 0,.slot 3,.own 8 5008 (.st [.sc,.sc,.sc,.sc]),.slot 9,.key 3,.mv 100000 [0,2] 8002] (evC gl (call gl tab (d+14)) L37 (S37B h fh fl mh v))=some (S37B h fh fl mh (nxt h v)):=by
 obtain⟨p1,p2,p3,p4,p5⟩:=zgg hi hw
 have i2:=zmo hi hw
 have t2:=zo2 hi hw
 have l2:=zi9 hi hw
 have htl:tot v.S<=1099511627776:=Int.le_trans hi.hv.ht hi.hv.c.2
 have ht0:0<=tot v.S:=(zcb hi.hv.va (Nat.le_refl _)).1
 have hsz:=hr.sz
 have hcc:=hi.hv.c
 have c1:=@zlk gl (d+14) (by omega) v.S hi.hv hi.ht h hr hi.ha hf
 have c2:=@z5d gl (d+14) _ (by omega) v.S fh fl sO [oV0] hi.hk (.inr rfl) hi.hv hi.ht hi.nm (vtn v.S h) (tot v.S) ⟨by omega,by omega⟩ v.m hi.hm (wls v h) rfl (wB.2 hw) (jls v h) (kls v h) p1 p2 p3 p4
 have hxn:(xls v h).nm.length<=5000:=hi.nm _ p1
 have c3:=@zf3 gl (d+14) _ (by omega) (nxt h v).S ⟨false,fh,fl,sA,mh⟩ [oV0] i2.hk (xls v h).nm hxn (tot (nxt h v).S) (mls v h).2 (zi8 hi.hm _)
 have c4:=@zf3 gl (d+14) _ (by omega) (nxt h v).S ⟨false,fh,fl,sA,mh⟩ [oV0] i2.hk h.nm hhn (tot (nxt h v).S) (Mp.ask (cnt v.S) (xls v h).nm (mls v h).2) (MOk.ask (zi8 hi.hm _))
 rw[show(vtn v.S h)=(vtn v.S h)from rfl]at c2
 have e1:updA v.S.A (kls v h) (-(oat v.S.H (jls v h)).sz)=(nxt h v).S.A:=rfl
 have e2:v.S.H.eraseIdx (jls v h)=(nxt h v).S.H:=rfl
 have e3:v.S.H.length-1=(nxt h v).S.H.length:=by omega
 have e4:tot v.S-(oat v.S.H (jls v h)).sz=tot (nxt h v).S:=t2.symm
 have e5:oat v.S.H (jls v h)=xls v h:=rfl
 rw[e4,e1,e2,e3,e5]at c2
 have m1:(mst v.S (wls v h) v.m ((wls v h).length-1)).2=(mls v h).2:=rfl
 rw[m1]at c2
 have n1:(nxt h v).o=v.o++[xls v h]:=rfl
 have n2:(nxt h v).w=(v.w&&(!decide ((xls v h).tn=h.tn)||decide (cnt v.S (xls v h).nm<cnt v.S h.nm))):=rfl
 have n3:(nxt h v).m=if v.w=true/\(xls v h).tn=h.tn then ask2 v.S (xls v h) h (mls v h).2 else(mls v h).2:=rfl
 have n4:(nxt h v).S.c=v.S.c:=rfl
 have n5:∀(A:List A3) (q:Fl) (t:Int) (kh nh km:Nat),XR v.S A q t kh nh km=XR (nxt h v).S A q t kh nh km:=fun _ _ _ _ _ _=>rfl
 have n6:cnt (nxt h v).S=cnt v.S:=rfl
 have n7:∀t,XB (nxt h v).S ⟨false,fh,fl,sA,mh⟩ t=XR (nxt h v).S (nxt h v).S.A ⟨false,fh,fl,sA,mh⟩ t 100001 (nxt h v).S.H.length 100002:=fun _=>rfl
 have a2:ask2 v.S (xls v h) h (mls v h).2=Mp.ask (cnt v.S) h.nm (Mp.ask (cnt v.S) (xls v h).nm (mls v h).2):=rfl
 rw[n6,n7]at c3 c4
 rw[n5]at c2
 have htk:=zye (nxt h v).S.H [oV0]
 have hap:=zg9 v.o (xls v h)
 have htk2:=ze2 v.o (oV (xls v h))
 have hol:=hi.ol
 have hlim:=zjc (show v.o.length<=8192 by omega)
 unfold S37B
 try unfold S37B
 rw[n1,n2,n3]
 have hc1:(call gl tab (d+14) 54 [i64 v.S.c,.lst false sA (ac v.S.A),i64 h.tn,i64 h.sz] []=some (.tup [i64 0,i64 160],[],[])/\vtn v.S h=h.tn)\/call gl tab (d+14) 54 [i64 v.S.c,.lst false sA (ac v.S.A),i64 h.tn,i64 h.sz] []=some (.tup [i64 (vtn v.S h),i64 0],[],[]):=by
  by_cases ho:own v.S h
  . left
    refine⟨?_,by rw[vtn,if_pos ho]⟩
    unfold own at ho
    rw[if_pos ho]at c1;exact c1
  . right
    have:vtn v.S h=(bst v.S.A (fgs v.S h) (idxT v.S.A h.tn) v.S.A.length).1:=by rw[vtn,if_neg ho]
    rw[this]
    unfold own at ho
    rw[if_neg ho]at c1;exact c1
 clear c1
 have hcS:(nxt h v).S.c=v.S.c:=rfl
 generalize nxt h v=v2 at *
 generalize hx:xls v h=x at *
 generalize (mls v h).2=m2 at *
 generalize vtn v.S h=t at *
 rcases hc1 with ⟨c1,ht⟩|c1
 . rw[ht]at c2
   clear ht
   cases hww:v.w with
   | false =>
     rw[if_neg (fun h=>by cases h.1),wJ]
     simp(disch:=apply zq;omega) only[go_sem,simprocAttr,↓Nat.reduceEqDiff,xx,L37,m22,c1,c2,htk,hap,htk2,hlim,zaa]
   | true =>
     by_cases hs:x.tn=h.tn
     . rw[if_pos ⟨rfl,hs⟩,wG,decide_eq_true hs,wK,wL,a2]
       have es:(x.tn != h.tn)=false:=by rw[hs];simp
       simp(disch:=apply zq;omega) only[go_sem,simprocAttr,↓Nat.reduceEqDiff,xx,L37,m22,c1,c2,c3,c4,htk,hap,htk2,hlim,zaa,es]
     . rw[if_neg (fun h=>hs h.2),wG,decide_eq_false hs,wH,wM]
       have es:(x.tn != h.tn)=true:=by simpa using hs
       simp(disch:=apply zq;omega) only[go_sem,simprocAttr,↓Nat.reduceEqDiff,xx,L37,m22,c1,c2,htk,hap,htk2,hlim,zaa,es]
 . clear p5
   cases hww:v.w with
   | false =>
     rw[if_neg (fun h=>by cases h.1),wJ]
     simp(disch:=apply zq;omega) only[go_sem,simprocAttr,↓Nat.reduceEqDiff,xx,L37,m22,c1,c2,htk,hap,htk2,hlim,zaa]
   | true =>
     by_cases hs:x.tn=h.tn
     . rw[if_pos ⟨rfl,hs⟩,wG,decide_eq_true hs,wK,wL,a2]
       have es:(x.tn != h.tn)=false:=by rw[hs];simp
       simp(disch:=apply zq;omega) only[go_sem,simprocAttr,↓Nat.reduceEqDiff,xx,L37,m22,c1,c2,c3,c4,htk,hap,htk2,hlim,zaa,es]
     . rw[if_neg (fun h=>hs h.2),wG,decide_eq_false hs,wH,wM]
       have es:(x.tn != h.tn)=true:=by simpa using hs
       simp(disch:=apply zq;omega) only[go_sem,simprocAttr,↓Nat.reduceEqDiff,xx,L37,m22,c1,c2,htk,hap,htk2,hlim,zaa,es]
end Go.Proofs.S97
