/-
  Chapter 17: the round of a search. No condition.
-/
import Derived.Test.YthipjfnealbheaaGreatDoorW97G20x4
set_option linter.all false
open Int renaming le_trans->wB
open Nat renaming le_refl->wC
open Bool renaming true_and->wD,not_false->wE,false_and->wF,not_true->wG,false_or->wH,true_or->wJ
namespace Go.Proofs.S97
open Go Go.Ev Go.Proofs Go.Proofs.S97.Q
variable {gl :Gl} {n:Nat}
open Go.Mp (esN fN MOk)
def L37 :MC:=match m22 with| .seq _ (.scope (.seq _ (.seq _ (.seq _ (.seq _ (.seq _ (.seq (.block _ (.loop _ b)) _)))))))=>b|_=>.skip
def S37A (h:Ob)(fh fl:Bool)(mh:Sh)(v:Vt):St :=
 ⟨[.set 9 (.bool v.w),.set 8 (.sl 5008 [] 0 v.o.length),.set 3 (.ptr 3 []),.set 0 (.ptr 100000 [])],[(100001,.mp (esN v.m.1) v.m.2),(100000,.fix shX (XA v.S ⟨false,fh,fl,sA,mh⟩ (tot v.S))),(3,.fix sO (oV h)),(5008,.grow sO (hs v.o))]⟩
def S37B (h:Ob)(fh fl:Bool)(mh:Sh)(v:Vt):St :=
 ⟨[.set 9 (.bool v.w),.set 8 (.sl 5008 [] 0 v.o.length),.set 3 (.ptr 3 []),.set 0 (.ptr 100000 [])],[(100001,.mp (esN v.m.1) v.m.2),(100000,.fix shX (XR v.S v.S.A ⟨false,fh,fl,sA,mh⟩ (tot v.S) 8002 v.S.H.length 100001)),(8002,.grow sO (hs v.S.H++[oV0])),(3,.fix sO (oV h)),(5008,.grow sO (hs v.o))]⟩
set_option maxHeartbeats 4000000 in
theorem qar [Nonempty (H.GlK gl)]{d:Nat}{h:Ob}(hr:ROk h)(hhn:h.nm.length<=5000){fh fl:Bool}{mh:Sh}{v:Vt}(hi:IV h v)(hmh:Mk v.S.H mh sO)(hf:v.S.c<tot v.S+h.sz)(hw:wls v h≠[]) :
  zba [.slot 0,.slot 3,.own 8 5008 (.st [.sc,.sc,.sc,.sc]),.slot 9,.key 3,.mv 100000 [0,2] 8002] (evC gl (call gl tab (d+14)) L37 (S37A h fh fl mh v))=some (S37B h fh fl mh (nxt h v)):=by
 obtain⟨p1,p2,p3,p4,p5⟩:=zlv hi hw
 have i2:=zto hi hw
 have t2:=zus hi hw
 have l2:=zpg hi hw
 have htl:tot v.S<=1099511627776:=wB hi.hv.ht hi.hv.c.2
 have ht0:0<=tot v.S:=(zdd hi.hv.va (wC _)).1
 have hsz:=hr.sz
 have hcc:=hi.hv.c
 have c1:=@zk6 gl (d+14) (by omega) v.S hi.hv hi.ht h hr hi.ha hf
 have c2:=@z4t gl (d+14) _ (by omega) v.S fh fl mh hi.hk hmh hi.hv hi.ht hi.nm (vtn v.S h) (tot v.S) ⟨by omega,by omega⟩ v.m hi.hm (wls v h) rfl (List.length_pos_iff.2 hw) (jls v h) (kls v h) p1 p2 p3 p4
 have hxn:(xls v h).nm.length<=5000:=hi.nm _ p1
 have c3:=@zf0 gl (d+14) _ (by omega) (nxt h v).S ⟨false,fh,fl,sA,mh⟩ [oV0] i2.hk (xls v h).nm hxn (tot (nxt h v).S) (mls v h).2 (zi1 hi.hm _)
 have c4:=@zf0 gl (d+14) _ (by omega) (nxt h v).S ⟨false,fh,fl,sA,mh⟩ [oV0] i2.hk h.nm hhn (tot (nxt h v).S) (Mp.ask (cnt v.S) (xls v h).nm (mls v h).2) (MOk.ask (zi1 hi.hm _))
 rw[show(vtn v.S h)=(vtn v.S h)from rfl]at c2
 have e1:updA v.S.A (kls v h) (-(oat v.S.H (jls v h)).sz)=(nxt h v).S.A:=rfl
 have e2:v.S.H.eraseIdx (jls v h)=(nxt h v).S.H:=rfl
 have e3:v.S.H.length-1=(nxt h v).S.H.length:=by omega
 have e4:tot v.S-(oat v.S.H (jls v h)).sz=tot (nxt h v).S:=t2.symm
 have e5:oat v.S.H (jls v h)=xls v h:=rfl
 rw[e4,e1,e2,e3,e5]at c2
 have m1:(mst v.S (wls v h) v.m ((wls v h).length-1)).2=(mls v h).2:=rfl
 rw[m1]at c2
 have n1:(nxt h v).o=v.o++[xls v h]:=rfl
 have n2:(nxt h v).w=(v.w&&(!decide ((xls v h).tn=h.tn)||decide (cnt v.S (xls v h).nm<cnt v.S h.nm))):=rfl
 have n3:(nxt h v).m=if v.w=true/\(xls v h).tn=h.tn then ask2 v.S (xls v h) h (mls v h).2 else(mls v h).2:=rfl
 have n4:(nxt h v).S.c=v.S.c:=rfl
 have n5:∀(A:List A3) (q:Fl) (t:Int) (kh nh km:Nat),XR v.S A q t kh nh km=XR (nxt h v).S A q t kh nh km:=fun _ _ _ _ _ _=>rfl
 have n6:cnt (nxt h v).S=cnt v.S:=rfl
 have n7:∀t,XB (nxt h v).S ⟨false,fh,fl,sA,mh⟩ t=XR (nxt h v).S (nxt h v).S.A ⟨false,fh,fl,sA,mh⟩ t 100001 (nxt h v).S.H.length 100002:=fun _=>rfl
 have a2:ask2 v.S (xls v h) h (mls v h).2=Mp.ask (cnt v.S) h.nm (Mp.ask (cnt v.S) (xls v h).nm (mls v h).2):=rfl
 rw[n6,n7]at c3 c4
 rw[n5]at c2
 have htk:=ztt (nxt h v).S.H [oV0]
 have hap:=zrr v.o (xls v h)
 have htk2:=zme v.o (oV (xls v h))
 have hol:=hi.ol
 have hlim:=zvv (show v.o.length<=8192 by omega)
 unfold S37A
 try unfold S37B
 rw[n1,n2,n3]
 have hc1:(call gl tab (d+14) 54 [i64 v.S.c,.lst false sA (ac v.S.A),i64 h.tn,i64 h.sz] []=some (.tup [i64 0,i64 160],[],[])/\vtn v.S h=h.tn)\/call gl tab (d+14) 54 [i64 v.S.c,.lst false sA (ac v.S.A),i64 h.tn,i64 h.sz] []=some (.tup [i64 (vtn v.S h),i64 0],[],[]):=by
  by_cases ho:own v.S h
  . left
    refine⟨?_,by rw[vtn,if_pos ho]⟩
    unfold own at ho
    rw[if_pos ho]at c1;exact c1
  . right
    have:vtn v.S h=(bst v.S.A (fgs v.S h) (idxT v.S.A h.tn) v.S.A.length).1:=by rw[vtn,if_neg ho]
    rw[this]
    unfold own at ho
    rw[if_neg ho]at c1;exact c1
 clear c1
 have hcS:(nxt h v).S.c=v.S.c:=rfl
 generalize nxt h v=v2 at *
 generalize hx:xls v h=x at *
 generalize (mls v h).2=m2 at *
 generalize vtn v.S h=t at *
 rcases hc1 with ⟨c1,ht⟩|c1
 . rw[ht]at c2
   clear ht
   cases hww:v.w with
   | false =>
     rw[if_neg (fun h=>by cases h.1),wF]
     simp(disch:=apply zq;omega) only[go_sem,simprocAttr,↓Nat.reduceEqDiff,xx,L37,m22,c1,c2,htk,hap,htk2,hlim,zaa]
   | true =>
     by_cases hs:x.tn=h.tn
     . rw[if_pos ⟨rfl,hs⟩,wD,decide_eq_true hs,wG,wH,a2]
       have es:(x.tn != h.tn)=false:=by rw[hs];simp
       simp(disch:=apply zq;omega) only[go_sem,simprocAttr,↓Nat.reduceEqDiff,xx,L37,m22,c1,c2,c3,c4,htk,hap,htk2,hlim,zaa,es]
     . rw[if_neg (fun h=>hs h.2),wD,decide_eq_false hs,wE,wJ]
       have es:(x.tn != h.tn)=true:=by simpa using hs
       simp(disch:=apply zq;omega) only[go_sem,simprocAttr,↓Nat.reduceEqDiff,xx,L37,m22,c1,c2,htk,hap,htk2,hlim,zaa,es]
 . clear p5
   cases hww:v.w with
   | false =>
     rw[if_neg (fun h=>by cases h.1),wF]
     simp(disch:=apply zq;omega) only[go_sem,simprocAttr,↓Nat.reduceEqDiff,xx,L37,m22,c1,c2,htk,hap,htk2,hlim,zaa]
   | true =>
     by_cases hs:x.tn=h.tn
     . rw[if_pos ⟨rfl,hs⟩,wD,decide_eq_true hs,wG,wH,a2]
       have es:(x.tn != h.tn)=false:=by rw[hs];simp
       simp(disch:=apply zq;omega) only[go_sem,simprocAttr,↓Nat.reduceEqDiff,xx,L37,m22,c1,c2,c3,c4,htk,hap,htk2,hlim,zaa,es]
     . rw[if_neg (fun h=>hs h.2),wD,decide_eq_false hs,wE,wJ]
       have es:(x.tn != h.tn)=true:=by simpa using hs
       simp(disch:=apply zq;omega) only[go_sem,simprocAttr,↓Nat.reduceEqDiff,xx,L37,m22,c1,c2,htk,hap,htk2,hlim,zaa,es]
set_option maxHeartbeats 4000000 in
theorem qaq [Nonempty (H.GlK gl)]{d:Nat}{h:Ob}(hr:ROk h)(hhn:h.nm.length<=5000){fh fl:Bool}{mh:Sh}{v:Vt}(hi:IV h v)(hf:v.S.c<tot v.S+h.sz)(hw:wls v h≠[]) :
  zba [.slot 0,.slot 3,.own 8 5008 (.st [.sc,.sc,.sc,.sc]),.slot 9,.key 3,.mv 100000 [0,2] 8002] (evC gl (call gl tab (d+14)) L37 (S37B h fh fl mh v))=some (S37B h fh fl mh (nxt h v)):=by
 obtain⟨p1,p2,p3,p4,p5⟩:=zlv hi hw
 have i2:=zto hi hw
 have t2:=zus hi hw
 have l2:=zpg hi hw
 have htl:tot v.S<=1099511627776:=wB hi.hv.ht hi.hv.c.2
 have ht0:0<=tot v.S:=(zdd hi.hv.va (wC _)).1
 have hsz:=hr.sz
 have hcc:=hi.hv.c
 have c1:=@zk6 gl (d+14) (by omega) v.S hi.hv hi.ht h hr hi.ha hf
 have c2:=@z4s gl (d+14) _ (by omega) v.S fh fl sO [oV0] hi.hk (.inr rfl) hi.hv hi.ht hi.nm (vtn v.S h) (tot v.S) ⟨by omega,by omega⟩ v.m hi.hm (wls v h) rfl (List.length_pos_iff.2 hw) (jls v h) (kls v h) p1 p2 p3 p4
 have hxn:(xls v h).nm.length<=5000:=hi.nm _ p1
 have c3:=@zf0 gl (d+14) _ (by omega) (nxt h v).S ⟨false,fh,fl,sA,mh⟩ [oV0] i2.hk (xls v h).nm hxn (tot (nxt h v).S) (mls v h).2 (zi1 hi.hm _)
 have c4:=@zf0 gl (d+14) _ (by omega) (nxt h v).S ⟨false,fh,fl,sA,mh⟩ [oV0] i2.hk h.nm hhn (tot (nxt h v).S) (Mp.ask (cnt v.S) (xls v h).nm (mls v h).2) (MOk.ask (zi1 hi.hm _))
 rw[show(vtn v.S h)=(vtn v.S h)from rfl]at c2
 have e1:updA v.S.A (kls v h) (-(oat v.S.H (jls v h)).sz)=(nxt h v).S.A:=rfl
 have e2:v.S.H.eraseIdx (jls v h)=(nxt h v).S.H:=rfl
 have e3:v.S.H.length-1=(nxt h v).S.H.length:=by omega
 have e4:tot v.S-(oat v.S.H (jls v h)).sz=tot (nxt h v).S:=t2.symm
 have e5:oat v.S.H (jls v h)=xls v h:=rfl
 rw[e4,e1,e2,e3,e5]at c2
 have m1:(mst v.S (wls v h) v.m ((wls v h).length-1)).2=(mls v h).2:=rfl
 rw[m1]at c2
 have n1:(nxt h v).o=v.o++[xls v h]:=rfl
 have n2:(nxt h v).w=(v.w&&(!decide ((xls v h).tn=h.tn)||decide (cnt v.S (xls v h).nm<cnt v.S h.nm))):=rfl
 have n3:(nxt h v).m=if v.w=true/\(xls v h).tn=h.tn then ask2 v.S (xls v h) h (mls v h).2 else(mls v h).2:=rfl
 have n4:(nxt h v).S.c=v.S.c:=rfl
 have n5:∀(A:List A3) (q:Fl) (t:Int) (kh nh km:Nat),XR v.S A q t kh nh km=XR (nxt h v).S A q t kh nh km:=fun _ _ _ _ _ _=>rfl
 have n6:cnt (nxt h v).S=cnt v.S:=rfl
 have n7:∀t,XB (nxt h v).S ⟨false,fh,fl,sA,mh⟩ t=XR (nxt h v).S (nxt h v).S.A ⟨false,fh,fl,sA,mh⟩ t 100001 (nxt h v).S.H.length 100002:=fun _=>rfl
 have a2:ask2 v.S (xls v h) h (mls v h).2=Mp.ask (cnt v.S) h.nm (Mp.ask (cnt v.S) (xls v h).nm (mls v h).2):=rfl
 rw[n6,n7]at c3 c4
 rw[n5]at c2
 have htk:=ztt (nxt h v).S.H [oV0]
 have hap:=zrr v.o (xls v h)
 have htk2:=zme v.o (oV (xls v h))
 have hol:=hi.ol
 have hlim:=zvv (show v.o.length<=8192 by omega)
 unfold S37B
 try unfold S37B
 rw[n1,n2,n3]
 have hc1:(call gl tab (d+14) 54 [i64 v.S.c,.lst false sA (ac v.S.A),i64 h.tn,i64 h.sz] []=some (.tup [i64 0,i64 160],[],[])/\vtn v.S h=h.tn)\/call gl tab (d+14) 54 [i64 v.S.c,.lst false sA (ac v.S.A),i64 h.tn,i64 h.sz] []=some (.tup [i64 (vtn v.S h),i64 0],[],[]):=by
  by_cases ho:own v.S h
  . left
    refine⟨?_,by rw[vtn,if_pos ho]⟩
    unfold own at ho
    rw[if_pos ho]at c1;exact c1
  . right
    have:vtn v.S h=(bst v.S.A (fgs v.S h) (idxT v.S.A h.tn) v.S.A.length).1:=by rw[vtn,if_neg ho]
    rw[this]
    unfold own at ho
    rw[if_neg ho]at c1;exact c1
 clear c1
 have hcS:(nxt h v).S.c=v.S.c:=rfl
 generalize nxt h v=v2 at *
 generalize hx:xls v h=x at *
 generalize (mls v h).2=m2 at *
 generalize vtn v.S h=t at *
 rcases hc1 with ⟨c1,ht⟩|c1
 . rw[ht]at c2
   clear ht
   cases hww:v.w with
   | false =>
     rw[if_neg (fun h=>by cases h.1),wF]
     simp(disch:=apply zq;omega) only[go_sem,simprocAttr,↓Nat.reduceEqDiff,xx,L37,m22,c1,c2,htk,hap,htk2,hlim,zaa]
   | true =>
     by_cases hs:x.tn=h.tn
     . rw[if_pos ⟨rfl,hs⟩,wD,decide_eq_true hs,wG,wH,a2]
       have es:(x.tn != h.tn)=false:=by rw[hs];simp
       simp(disch:=apply zq;omega) only[go_sem,simprocAttr,↓Nat.reduceEqDiff,xx,L37,m22,c1,c2,c3,c4,htk,hap,htk2,hlim,zaa,es]
     . rw[if_neg (fun h=>hs h.2),wD,decide_eq_false hs,wE,wJ]
       have es:(x.tn != h.tn)=true:=by simpa using hs
       simp(disch:=apply zq;omega) only[go_sem,simprocAttr,↓Nat.reduceEqDiff,xx,L37,m22,c1,c2,htk,hap,htk2,hlim,zaa,es]
 . clear p5
   cases hww:v.w with
   | false =>
     rw[if_neg (fun h=>by cases h.1),wF]
     simp(disch:=apply zq;omega) only[go_sem,simprocAttr,↓Nat.reduceEqDiff,xx,L37,m22,c1,c2,htk,hap,htk2,hlim,zaa]
   | true =>
     by_cases hs:x.tn=h.tn
     . rw[if_pos ⟨rfl,hs⟩,wD,decide_eq_true hs,wG,wH,a2]
       have es:(x.tn != h.tn)=false:=by rw[hs];simp
       simp(disch:=apply zq;omega) only[go_sem,simprocAttr,↓Nat.reduceEqDiff,xx,L37,m22,c1,c2,c3,c4,htk,hap,htk2,hlim,zaa,es]
     . rw[if_neg (fun h=>hs h.2),wD,decide_eq_false hs,wE,wJ]
       have es:(x.tn != h.tn)=true:=by simpa using hs
       simp(disch:=apply zq;omega) only[go_sem,simprocAttr,↓Nat.reduceEqDiff,xx,L37,m22,c1,c2,htk,hap,htk2,hlim,zaa,es]
end Go.Proofs.S97
namespace Go.Proofs.S97
open Go Go.Ev Go.Proofs Go.Proofs.S97.Q
variable {gl :Gl} {n:Nat}
open Go.Mp (esN fN MOk)
noncomputable def runV (h:Ob):Nat->Vt->Vt
 | 0,v=>v
 | k+1,v=>if goV h v=true then runV h k (nxt h v)else v
theorem zqm {h:Ob}{v:Vt}(hg:goV h v=false):∀k,runV h k v=v
 | 0=>rfl
 | k+1=>by rw[runV,if_neg (by rw[hg];decide)]
theorem zs1 {h:Ob}{v:Vt}(hg:goV h v=true)(k:Nat):runV h (k+1) v=runV h k (nxt h v):=by rw[runV,if_pos hg]
theorem qk2 {h:Ob}{v:Vt}(hg:goV h v=true):v.S.c<tot v.S+h.sz/\wls v h≠[]:=by
 unfold goV at hg
 rw[Bool.and_eq_true,decide_eq_true_eq,decide_eq_true_eq]at hg
 exact hg
theorem z62 {h:Ob}{v:Vt}(hg:goV h v=false):¬v.S.c<tot v.S+h.sz\/(v.S.c<tot v.S+h.sz/\wls v h=[]):=by
 by_cases h1:v.S.c<tot v.S+h.sz
 . refine .inr ⟨h1,Classical.byContradiction fun h2=> ?_⟩
   unfold goV at hg
   rw[Bool.and_eq_false_iff,decide_eq_false_iff_not,decide_eq_false_iff_not]at hg
   rcases hg with hg|hg
   . exact hg h1
   . exact hg h2
 . exact .inl h1
theorem qio {d:Nat}{h:Ob}(hr:ROk h){fh fl:Bool}{mh:Sh}{v:Vt}(hi:IV h v)(hf:¬v.S.c<tot v.S+h.sz):isEx (evC gl (call gl tab (d+14)) L37 (S37A h fh fl mh v))=true:=by
 have htl:tot v.S<=1099511627776:=wB hi.hv.ht hi.hv.c.2
 have ht0:0<=tot v.S:=(zdd hi.hv.va (wC _)).1
 have hsz:=hr.sz
 have hcc:=hi.hv.c
 unfold S37A
 generalize tot v.S=t at *
 simp(disch:=apply zq;omega) only[go_sem,simprocAttr,↓Nat.reduceEqDiff,xx,L37,m22]
set_option maxHeartbeats 2000000 in
theorem qgp {d:Nat}{h:Ob}(hr:ROk h){fh fl:Bool}{mh:Sh}{v:Vt}(hi:IV h v)(hmh:Mk v.S.H mh sO)(hf:v.S.c<tot v.S+h.sz)(hw:wls v h=[]):isEx (evC gl (call gl tab (d+14)) L37 (S37A h fh fl mh v))=true:=by
 have htl:tot v.S<=1099511627776:=wB hi.hv.ht hi.hv.c.2
 have ht0:0<=tot v.S:=(zdd hi.hv.va (wC _)).1
 have hsz:=hr.sz
 have hcc:=hi.hv.c
 have c1:=@zk6 gl (d+14) (by omega) v.S hi.hv hi.ht h hr hi.ha hf
 have c2:=@zuu gl (d+14) (by omega) v.S ⟨false,fh,fl,sA,mh⟩ ⟨.inr rfl,hmh⟩ (by have:=hi.hv.hn;omega) (vtn v.S h) hw (tot v.S) v.m
 have hc1:(call gl tab (d+14) 54 [i64 v.S.c,.lst false sA (ac v.S.A),i64 h.tn,i64 h.sz] []=some (.tup [i64 0,i64 160],[],[])/\vtn v.S h=h.tn)\/call gl tab (d+14) 54 [i64 v.S.c,.lst false sA (ac v.S.A),i64 h.tn,i64 h.sz] []=some (.tup [i64 (vtn v.S h),i64 0],[],[]):=by
  by_cases ho:own v.S h
  . left
    refine⟨?_,by rw[vtn,if_pos ho]⟩
    unfold own at ho
    rw[if_pos ho]at c1;exact c1
  . right
    have:vtn v.S h=(bst v.S.A (fgs v.S h) (idxT v.S.A h.tn) v.S.A.length).1:=by rw[vtn,if_neg ho]
    rw[this]
    unfold own at ho
    rw[if_neg ho]at c1;exact c1
 clear c1
 unfold S37A
 generalize vtn v.S h=t at *
 rcases hc1 with ⟨c1,ht⟩|c1
 . rw[ht]at c2
   simp(disch:=apply zq;omega) only[go_sem,simprocAttr,↓Nat.reduceEqDiff,xx,L37,m22,c1,c2]
 . simp(disch:=apply zq;omega) only[go_sem,simprocAttr,↓Nat.reduceEqDiff,xx,L37,m22,c1,c2]
theorem qin {d:Nat}{h:Ob}(hr:ROk h){fh fl:Bool}{mh:Sh}{v:Vt}(hi:IV h v)(hf:¬v.S.c<tot v.S+h.sz):isEx (evC gl (call gl tab (d+14)) L37 (S37B h fh fl mh v))=true:=by
 have htl:tot v.S<=1099511627776:=wB hi.hv.ht hi.hv.c.2
 have ht0:0<=tot v.S:=(zdd hi.hv.va (wC _)).1
 have hsz:=hr.sz
 have hcc:=hi.hv.c
 unfold S37B
 generalize tot v.S=t at *
 simp(disch:=apply zq;omega) only[go_sem,simprocAttr,↓Nat.reduceEqDiff,xx,L37,m22]
set_option maxHeartbeats 2000000 in
theorem qgo {d:Nat}{h:Ob}(hr:ROk h){fh fl:Bool}{mh:Sh}{v:Vt}(hi:IV h v)(hf:v.S.c<tot v.S+h.sz)(hw:wls v h=[]):isEx (evC gl (call gl tab (d+14)) L37 (S37B h fh fl mh v))=true:=by
 have htl:tot v.S<=1099511627776:=wB hi.hv.ht hi.hv.c.2
 have ht0:0<=tot v.S:=(zdd hi.hv.va (wC _)).1
 have hsz:=hr.sz
 have hcc:=hi.hv.c
 have c1:=@zk6 gl (d+14) (by omega) v.S hi.hv hi.ht h hr hi.ha hf
 have c2:=@zut gl (d+14) (by omega) v.S ⟨false,fh,fl,sA,sO⟩ [oV0] ⟨.inr rfl,(.inr rfl)⟩ (by have:=hi.hv.hn;omega) (vtn v.S h) hw (tot v.S) v.m
 have hc1:(call gl tab (d+14) 54 [i64 v.S.c,.lst false sA (ac v.S.A),i64 h.tn,i64 h.sz] []=some (.tup [i64 0,i64 160],[],[])/\vtn v.S h=h.tn)\/call gl tab (d+14) 54 [i64 v.S.c,.lst false sA (ac v.S.A),i64 h.tn,i64 h.sz] []=some (.tup [i64 (vtn v.S h),i64 0],[],[]):=by
  by_cases ho:own v.S h
  . left
    refine⟨?_,by rw[vtn,if_pos ho]⟩
    unfold own at ho
    rw[if_pos ho]at c1;exact c1
  . right
    have:vtn v.S h=(bst v.S.A (fgs v.S h) (idxT v.S.A h.tn) v.S.A.length).1:=by rw[vtn,if_neg ho]
    rw[this]
    unfold own at ho
    rw[if_neg ho]at c1;exact c1
 clear c1
 unfold S37B
 generalize vtn v.S h=t at *
 rcases hc1 with ⟨c1,ht⟩|c1
 . rw[ht]at c2
   simp(disch:=apply zq;omega) only[go_sem,simprocAttr,↓Nat.reduceEqDiff,xx,L37,m22,c1,c2]
 . simp(disch:=apply zq;omega) only[go_sem,simprocAttr,↓Nat.reduceEqDiff,xx,L37,m22,c1,c2]
def v0 (S:Sf):Vt:=⟨S,([],0),[],true,false⟩
def SV (h:Ob)(fh fl:Bool)(mh:Sh)(v:Vt):St:=if v.b=true then S37B h fh fl mh v else S37A h fh fl mh v
theorem SV_t {h:Ob}{fh fl:Bool}{mh:Sh}{v:Vt}(e:v.b=true):SV h fh fl mh v=S37B h fh fl mh v:=by rw[SV,if_pos e]
theorem SV_f {h:Ob}{fh fl:Bool}{mh:Sh}{v:Vt}(e:v.b=false):SV h fh fl mh v=S37A h fh fl mh v:=by rw[SV,if_neg (by rw[e];decide)]
theorem qgw [Nonempty (H.GlK gl)]{d:Nat}{h:Ob}(hr:ROk h)(hhn:h.nm.length<=5000){fh fl:Bool}{mh:Sh}{S:Sf}(hi:IV h (v0 S))(hmh:Mk S.H mh sO) :
  ∃v,IV h v/\goV h v=false/\v=runV h S.H.length (v0 S)/\(v.b=false->v=v0 S)/\v.S.c=S.c/\∀st,zc2 [.slot 0,.slot 3,.own 8 5008 (.st [.sc,.sc,.sc,.sc]),.slot 9,.key 3,.mv 100000 [0,2] 8002] st=some (S37A h fh fl mh (v0 S))->iter (evC gl (call gl tab (d+14)) L37) [.slot 0,.slot 3,.own 8 5008 (.st [.sc,.sc,.sc,.sc]),.slot 9,.key 3,.mv 100000 [0,2] 8002] LF st=evC gl (call gl tab (d+14)) L37 (SV h fh fl mh v):=by
 obtain⟨v,⟨h1,h2,h3,h4⟩,hg,hit⟩:=zi3 (f:=evC gl (call gl tab (d+14)) L37) (ks:=[.slot 0,.slot 3,.own 8 5008 (.st [.sc,.sc,.sc,.sc]),.slot 9,.key 3,.mv 100000 [0,2] 8002]) (SV h fh fl mh)
  (fun v=>IV h v/\(v.b=false->v=v0 S)/\runV h v.S.H.length v=runV h S.H.length (v0 S)/\v.S.c=S.c) (fun v=>v.S.H.length) (nxt h) (goV h) (a0:=v0 S) (by have:=hi.hv.hn;unfold LF;show S.H.length<_;have h2:(v0 S).S.H.length=S.H.length:=rfl;omega)
  ⟨hi,fun _=>rfl,rfl,rfl⟩
  (fun v ⟨h1,h2,h3,h4⟩ hg=>by
    obtain⟨g1,g2⟩:=qk2 hg
    have hl:=zpg h1 g2
    refine⟨?_,⟨zto h1 g2,(fun h=>by cases h),?_,h4⟩,by show(nxt h v).S.H.length<v.S.H.length;omega⟩
    . rw[SV_t (show(nxt h v).b=true from rfl)]
      cases hb:v.b with
      | true=>rw[SV_t hb];exact qaq hr hhn h1 g1 g2
      | false =>
        rw[SV_f hb]
        have e:=h2 hb
        exact qar hr hhn h1 (by rw[e];exact hmh) g1 g2
    . rw[<-h3,<-hl,zs1 hg])
  (fun v ⟨h1,h2,h3,h4⟩ hg=>by
    cases hb:v.b with
    | true =>
      rw[SV_t hb]
      rcases z62 hg with g|⟨g1,g2⟩
      . exact qin hr h1 g
      . exact qgo hr h1 g1 g2
    | false =>
      rw[SV_f hb]
      rcases z62 hg with g|⟨g1,g2⟩
      . exact qio hr h1 g
      . have e:=h2 hb
        exact qgp hr h1 (by rw[e];exact hmh) g1 g2)
 refine⟨v,h1,hg,?_,h2,h4,fun st hc=>hit st (by rw[SV_f rfl];exact hc)⟩
 rw[<-h3,zqm hg]
end Go.Proofs.S97
