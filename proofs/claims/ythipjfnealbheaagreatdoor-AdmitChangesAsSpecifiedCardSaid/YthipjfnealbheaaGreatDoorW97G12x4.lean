/-
  Chapter 8: the least of a key's cells; counts. No condition.
-/
import Derived.Test.YthipjfnealbheaaGreatDoorW97G11x4
import Derived.Test.YthipjfnealbheaaGreatDoorW97G10x4
set_option linter.all false
open Nat renaming exists_eq_add_of_le'->wB,le_refl->wC,sub_self->wD
open List renaming getD_eq_getElem?_getD->wE,length_replicate->wF,length_append->wG,length_set->wH
namespace Go.Proofs.S97.K
open Go Go.Ev Go.Proofs
section
variable {gl :Gl} {n:Nat}
def mn (x y:Int):Int:=if y<x then y else x
def lea (l:List Int)(p:Nat->Nat):Nat->Int
 | 0=>15
 | i+1=>mn (lea l p i) (nat l (p i))
theorem z9x (p:Nat->Nat)(i:Nat)(h:i<4):(P4 p)[i]? =some (i64 (p i)):=by
 match i,h with
 | 0,_=>rfl
 | 1,_=>rfl
 | 2,_=>rfl
 | 3,_=>rfl
theorem zoe (p:Nat->Nat):(P4 p).length=4:=rfl
theorem zy8 (p:Nat->Nat):(P4 p).all AV.scalar=true:=rfl
def lpr :OB:=.lp 670 [.ptr 100001 []] .ready
theorem round_at (h:1<=n)(a x:Int):call gl tab n 1000670 [.cp .sc (i64 x)] [(100000,lpr),(100001,.fix .sc (i64 a))]=some (.bool true,[(100000,lpr),(100001,.fix .sc (i64 (mn a x)))],[]):=by
 obtain⟨d,rfl⟩:=wB h
 rw[zei (fd:=zv2) rfl rfl]
 simp(disch:=apply zq;omega) only[go_sem,simprocAttr,↓Nat.reduceEqDiff,xx,zv2,qch,qcg,lpr,zi7,zo9,mn]
theorem qdq (h:1<=n)(f:Bool)(m:Sh)(l:List Int)(p:Nat->Nat):call gl tab n 68 [.lst f m (ns l),.agg (P4 p)] []=some (.fn 91 [.ptr 20000 [],.ptr 20001 []],[],[.fix (.ar 4 .sc) (.agg (P4 p)),.fix .sc (.lst f m (ns l))]):=by
 obtain⟨d,rfl⟩:=wB h
 rw[za5 (fd:=fd68) rfl]
 simp(disch:=apply zq;omega) only[go_sem,simprocAttr,↓Nat.reduceEqDiff,xx,fd68,m68,P4]
def L43 :MC:=match m91 with| .seq _ (.block _ (.loop _ b))=>b|_=>.skip
def S43 (f:Bool)(m:Sh)(l:List Int)(p:Nat->Nat)(i:Nat):St :=
 ⟨[.set 7 (i64 i),.set 6 (.agg (P4 p)),.set 2 (.ptr 100003 []),.set 0 (.yld 100000)],[(100003,.fix .sc (.lst f m (ns l))),(100002,.fix (.ar 4 .sc) (.agg (P4 p))),(100001,.fix .sc (i64 (lea l p i))),(100000,lpr)]⟩
set_option maxHeartbeats 1000000 in
theorem z1n (h:2<=n){f:Bool}{l:List Int}{p:Nat->Nat}(hp:∀i,i<4->p i<l.length)(hl:l.length<2^20) :
  call gl tab n 91 [.yld 100000,.ptr 100002 [],.ptr 100003 []] [(100000,lpr),(100001,.fix .sc (i64 15)),(100002,.fix (.ar 4 .sc) (.agg (P4 p))),(100003,.fix .sc (.lst f .sc (ns l)))] =
   some (.tup [],[(100000,lpr),(100001,.fix .sc (i64 (lea l p 4))),(100002,.fix (.ar 4 .sc) (.agg (P4 p))),(100003,.fix .sc (.lst f .sc (ns l)))],[]):=by
 obtain⟨d,rfl⟩:=wB h
 have hs:∀i,i<4->zba [.slot 0,.slot 2,.slot 6,.slot 7] (evC gl (call gl tab (d+1)) L43 (S43 f .sc l p i))=some (S43 f .sc l p (i+1)):=fun i hi=>by
  have hx:=ns_at (hp i hi)
  have hy:=z9x p i hi
  have hlp:=zoe p
  have hsc:=zy8 p
  have hpi:=hp i hi
  have c:=@round_at gl (d+1) (by omega) (lea l p i) (nat l (p i))
  have e:lea l p (i+1)=mn (lea l p i) (nat l (p i)):=rfl
  rw[S43,S43,e]
  simp only[lpr]at c
  generalize P4 p=q at *
  simp(disch:=apply zq;omega) only[go_sem,simprocAttr,↓Nat.reduceEqDiff,xx,L43,m91,lpr,hx,hy,hlp,hsc,ns_length,c]
 simp only[L43,m91]at hs
 have hlp:=zoe p
 have hsc:=zy8 p
 rw[za5 (fd:=fd91) rfl]
 generalize hq:P4 p=q at *
 simp(disch:=apply zq;omega) only[go_sem,simprocAttr,↓Nat.reduceEqDiff,xx,fd91,m91,lpr,hlp,hsc]
 rw[zaj (S43 f .sc l p) 4 (by unfold LF;omega)]
 . rw[S43,hq];simp(disch:=apply zq;omega) only[go_sem,simprocAttr,↓Nat.reduceEqDiff,xx,lpr]
 . rw[S43,hq];simp(disch:=apply zq;omega) only[go_sem,simprocAttr,↓Nat.reduceEqDiff,xx,lpr,lea]
 . exact hs
 . rw[S43,hq];simp(disch:=apply zq;omega) only[go_sem,simprocAttr,↓Nat.reduceEqDiff,xx,lpr]
theorem zve (h:3<=n){f:Bool}{l:List Int}{p:Nat->Nat}(hp:∀i,i<4->p i<l.length)(hl:l.length<2^20) :
  call gl tab n 67 [.lst f .sc (ns l),.agg (P4 p)] []=some (i64 (lea l p 4),[],[]):=by
 obtain⟨d,rfl⟩:=wB h
 have c34:=@qdq gl (d+2) (by omega) f .sc l p
 have c43:=@z1n gl (d+2) (by omega) f l p hp hl
 have hlp:=zoe p
 have hsc:=zy8 p
 simp only[lpr]at c43
 rw[zaf (fd:=fd67) rfl]
 generalize hq:P4 p=q at *
 simp(disch:=apply zq;omega) only[go_sem,simprocAttr,↓Nat.reduceEqDiff,xx,fd67,m67,hlp,hsc,c34,c43]
end
section
variable {gl :Gl} {n:Nat}
theorem count_at [Nonempty (H.GlK gl)](h:10<=n){key:List UInt8}(hk:key.length<=5000){w:Nat}(hw:1<=w/\w<=4096){s a:Int}{f:Bool}{l:List Int}(hl:l.length=4*w) :
  call gl tab n 82 [.agg [i64 w,i64 s,i64 a,.lst f .sc (ns l)],.str key] []=some (i64 (lea l (pl key w) 4),[],[]):=by
 obtain⟨d,rfl⟩:=wB h
 have c31:=@of_at gl (d+9) _ (by omega) key hk w hw s a f l
 have c33:=@zve gl (d+9) (by omega) f l (pl key w) (fun i hi=>by rw[hl];exact zlu hw.1 hi) (by omega)
 rw[zaf (fd:=fd82) rfl]
 generalize P4 (pl key w)=q at *
 generalize lea l (pl key w) 4=x at *
 simp(disch:=apply zq;omega) only[go_sem,simprocAttr,↓Nat.reduceEqDiff,xx,fd82,m82,c31,c33]
def L26 :MC:=match m65 with| .seq _ (.seq _ (.seq (.seq _ (.block _ (.loop _ b))) _))=>b|_=>.skip
def S26 (g:Nat->Int)(w:Nat)(s a:Int)(f:Bool)(l:List Int)(key:List UInt8)(i:Nat):St :=
 ⟨[.set 6 (i64 i),.set 5 (i64 (g i)),.set 2 (.ptr 2 []),.set 1 (.str key)],[(2,.fix sK (.agg [i64 w,i64 s,i64 a,.lst f .sc (ns l)]))]⟩
theorem qfh [Nonempty (H.GlR gl)](h:9<=n){key:List UInt8}(hk:key.length<=5000){w:Nat}(hw:1<=w/\w<=4096){s a:Int}{f:Bool}{l:List Int}(hl:l.length=4*w){i:Nat}(hi:i<4) :
  zba [.slot 1,.slot 2,.slot 5,.slot 6,.key 2] (evC gl (call gl tab n) L26 (S26 (lea l (pl key w)) w s a f l key i))=some (S26 (lea l (pl key w)) w s a f l key (i+1)):=by
 have c:=@zqo gl n _ (by omega) key hk i w hi hw
 have hm:=Nat.mod_lt (plc key i) (show 0<w by omega)
 have hp:=zlu (key:=key) hw.1 hi
 have hx:=ns_at (show pl key w i<l.length by omega)
 have hlt:i*w<=3*w:=Nat.mul_le_mul_right w (by omega)
 have e:pl key w i=i*w+plc key i%w:=rfl
 have e2:lea l (pl key w) (i+1)=mn (lea l (pl key w) i) (nat l (pl key w i)):=rfl
 rw[S26,S26,e2]
 generalize lea l (pl key w) i=b at *
 rw[e]at hx hp ⊢
 generalize plc key i%w=y at *
 generalize hz:i*w=z at *
 have hz2:(i:Int)*(w:Int)=(z:Int):=by rw[<-hz];exact(Int.natCast_mul i w).symm
 by_cases hb:nat l (z+y)<b
 . simp(implicitDefEqProofs:=false) (disch:=apply zq;omega) only[go_sem,simprocAttr,↓Nat.reduceEqDiff,xx,L26,m65,c,hx,hz2,ns_length,mn,hb]
 . simp(implicitDefEqProofs:=false) (disch:=apply zq;omega) only[go_sem,simprocAttr,↓Nat.reduceEqDiff,xx,L26,m65,c,hx,hz2,ns_length,mn,hb]
theorem z0l [Nonempty (H.GlR gl)](h:10<=n){key:List UInt8}(hk:key.length<=5000){w:Nat}(hw:1<=w/\w<=4096){s a:Int}{f:Bool}{l:List Int}(hl:l.length=4*w) :
  call gl tab n 65 [.agg [i64 w,i64 s,i64 a,.lst f .sc (ns l)],.str key] []=some (i64 (lea l (pl key w) 4),[],[]):=by
 obtain⟨d,rfl⟩:=wB h
 have hs:=fun i hi=>@qfh gl (d+9) _ (by omega) key hk w hw s a f l hl i hi
 simp only[L26,m65]at hs
 have hg:lea l (pl key w) 0=15:=rfl
 generalize lea l (pl key w)=g at *
 rw[zaf (fd:=fd65) rfl]
 simp(disch:=apply zq;omega) only[go_sem,simprocAttr,↓Nat.reduceEqDiff,xx,fd65,m65]
 rw[zaj (S26 g w s a f l key) 4 (by unfold LF;omega)]
 . simp(disch:=apply zq;omega) only[go_sem,simprocAttr,↓Nat.reduceEqDiff,xx,S26]
 . simp(disch:=apply zq;omega) only[go_sem,simprocAttr,↓Nat.reduceEqDiff,xx,S26,hg]
 . exact hs
 . simp(disch:=apply zq;omega) only[go_sem,simprocAttr,↓Nat.reduceEqDiff,xx,S26]
end
end Go.Proofs.S97.K
namespace Go.Proofs.S97.K
open Go Go.Ev Go.Proofs
variable {gl :Gl} {n:Nat}
theorem z2c (h:1<=n)(k x:Int)(hx:0<=x/\x<=30):call gl tab n 93 [i64 k,i64 x] []=some (i64 (x/2),[],[]):=by
 obtain⟨d,rfl⟩:=wB h
 have q:=quo2 hx.1
 have q4:0<=x/2/\x/2<=15:=by omega
 rw[zaf (fd:=fd93) rfl]
 simp(disch:=apply zq;omega) only[go_sem,simprocAttr,↓Nat.reduceEqDiff,xx,fd93,m93,zam,q]
theorem ns_set (l:List Int)(i:Nat)(v:Int):(ns l).set i (i64 v)=ns (l.set i v):=by simp[ns]
theorem ns_rep (k:Nat):List.replicate k (AV.int .i64 0)=ns (List.replicate k 0):=by simp[ns]
def mpd (f:Nat->Int):Nat->List Int
 | 0=>[]
 | i+1=>mpd f i++[f i]
def bufM (f:Nat->Int)(N i:Nat):List Int:=mpd f i++List.replicate (N-i) 0
theorem zcx (f:Nat->Int):∀i,(mpd f i).length=i
 | 0=>rfl
 | i+1=>by rw[mpd,wG,zcx f i];rfl
theorem zuc {f:Nat->Int}{N i:Nat}(h:i<=N):(bufM f N i).length=N:=by rw[bufM,wG,zcx,wF];omega
theorem z8e {f:Nat->Int}{N i:Nat}(h:i<N):(bufM f N i).set i (f i)=bufM f N (i+1):=by
 rw[bufM,bufM,mpd,List.set_append_right _ _ (by rw[zcx];exact wC _),zcx,wD]
 obtain⟨k,hk⟩:∃k,N-i=k+1:=⟨N-i-1,by omega⟩
 rw[hk,show N-(i+1)=k by omega,List.replicate_succ,List.set_cons_zero,List.append_assoc];rfl
theorem z8f (f:Nat->Int)(N:Nat):bufM f N N=mpd f N:=by rw[bufM,wD];exact List.append_nil _
theorem ztf (l:List Int):∀i,mpd (fun i=>nat l i/2) i=hlf l i
 | 0=>rfl
 | i+1=>by rw[mpd,hlf,ztf l i]
def L36 :MC:=match m92 with| .seq _ (.seq _ (.seq (.seq _ (.block _ (.loop _ b))) _))=>b|_=>.skip
def S36 (b:Bool)(fn:AV)(l:List Int)(f:Nat->Int)(i:Nat):St :=
 ⟨[.set 13 (i64 i),.set 12 (i64 l.length),.set 11 (.lst b .sc (ns l)),.set 5 (.sl 10 [] 0 l.length),.set 1 fn],[(10,.grow .sc (ns (bufM f l.length i)))]⟩
theorem z09 (h:1<=n){b:Bool}{l:List Int}{g:Nat}{caps:List AV}{f:Nat->Int}(hg:g<1000000)(hm:∀hp,mapO (zau hp 4) caps=some caps)(hr:AV.refss caps=[])(hl:l.length<2^20)
  (hf:∀i,i<l.length->call gl tab (n-1) g (i64 i::i64 (nat l i)::caps) []=some (i64 (f i),[],[])) :
  call gl tab n 92 [.lst b .sc (ns l),.fn g caps] []=some (.sl 20000 [] 0 l.length,[],[.grow .sc (ns (mpd f l.length))]):=by
 obtain⟨d,rfl⟩:=wB h
 rw[show d+1-1=d from rfl]at hf
 have hlim:l.length<=LIM:=by unfold LIM;omega
 have hlim2:(l.length:Int)<=(LIM:Nat):=by unfold LIM;omega
 have hs:∀i,i<l.length->zba [.slot 1,.slot 5,.slot 11,.slot 12,.slot 13,.key 10] (evC gl (call gl tab d) L36 (S36 b (.fn g caps) l f i))=some (S36 b (.fn g caps) l f (i+1)):=fun i hi=>by
  have hx:=ns_at hi
  have hc:=hf i hi
  have hb:=@zuc f l.length i (by omega)
  have hnx:=ns_at (show i<(bufM f l.length i).length by omega)
  have hst:=@z8e f l.length i hi
  simp(disch:=apply zq;omega) only[go_sem,simprocAttr,↓Nat.reduceEqDiff,xx,L36,m92,S36,ns_length,hx,hc,hb,hnx,ns_set,hst,hm,hr]
 simp only[L36,m92]at hs
 rw[zaf (fd:=fd92) rfl]
 simp(disch:=apply zq;omega) only[go_sem,simprocAttr,↓Nat.reduceEqDiff,xx,fd92,m92,ns_length,hlim,hlim2]
 have htk:=ns_take' (mpd f l.length)
 rw[zcx]at htk
 rw[zaj (S36 b (.fn g caps) l f) l.length (by unfold LF;omega)]
 . simp(disch:=apply zq;omega) only[go_sem,simprocAttr,↓Nat.reduceEqDiff,xx,S36,ns_length,z8f,zcx,htk,hm,hr]
 . simp(disch:=apply zq;omega) only[go_sem,simprocAttr,↓Nat.reduceEqDiff,xx,S36,ns_length,bufM,mpd,ns_rep,wF,Nat.sub_zero,List.nil_append,hm,hr]
 . exact hs
 . simp(disch:=apply zq;omega) only[go_sem,simprocAttr,↓Nat.reduceEqDiff,xx,S36,ns_length]
end Go.Proofs.S97.K
namespace Go.Proofs.S97.K
open Go Go.Ev Go.Proofs
variable {gl :Gl} {n:Nat}
def Cs (l:List Int):Prop:=∀i,i<l.length->0<=nat l i/\nat l i<=15
theorem ns_noImms :∀(l:List Int),zcy (ns l)=true
 | []=>rfl
 | x::l=>by
   have:=ns_noImms l
   rw[ns,List.map_cons,zcy,<-ns,this];rfl
theorem z2b (h:3<=n){w s a:Int}{l:List Int}(ha:0<=a/\a<=2097152)(hl:l.length<2^20)(hc:Cs l) :
  call gl tab n 69 [.aggR [i64 w,i64 s,i64 a,.sl 100000 [] 0 l.length]] [(100000,.grow .sc (ns l))]=some (hv w s a l.length,[(100000,.grow .sc (ns l))],[.grow .sc (ns (hlf l l.length))]):=by
 obtain⟨d,rfl⟩:=wB h
 have q2:=quo2 ha.1
 have c36:=@z09 gl (d+2) (by omega) false l 93 [] (fun i=>nat l i/2) (by decide) (fun _=>rfl) rfl hl (fun i hi=>z2c (by omega) i _ (by have:=hc i hi;omega))
 rw[ztf]at c36
 have him:=ns_noImms (hlf l l.length)
 have htk:=ns_take' l
 rw[za5 (fd:=fd69) rfl]
 simp(disch:=apply zq;omega) only[go_sem,simprocAttr,↓Nat.reduceEqDiff,xx,fd69,m69,ns_length,zam,q2,c36,hv,him,htk]
theorem z0x {f:Nat->Int}:∀{i j:Nat},j<i->nat (mpd f i) j=f j
 | i+1,j,h=>by
   rw[mpd,nat,wE]
   by_cases hj:j<i
   . rw[List.getElem?_append_left (by rw[zcx];exact hj),<-wE];exact z0x hj
   . have e:j=i:=by omega
     subst e
     rw[List.getElem?_append_right (by rw[zcx];exact wC _),zcx,wD];rfl
end Go.Proofs.S97.K
namespace Go.Proofs.S97.K
open Go Go.Ev Go.Proofs
section
variable {gl :Gl} {n:Nat}
def ad (l:List Int)(p:Nat->Nat)(c:Int):Nat->List Int
 | 0=>l
 | i+1=>if nat (ad l p c i) (p i)=c/\c<15 then(ad l p c i).set (p i) (c+1)else ad l p c i
theorem zf3 (l:List Int)(p:Nat->Nat)(c:Int):∀i,(ad l p c i).length=l.length
 | 0=>rfl
 | i+1=>by
   rw[ad];split
   . rw[wH,zf3 l p c i]
   . exact zf3 l p c i
def lp2 :OB:=.lp 390 [.ptr 100001 []] .ready
theorem zz9 (h:1<=n)(c:Int)(hc:0<=c/\c<=15)(l:List Int)(k:Nat)(hk:k<l.length)(hx:0<=nat l k/\nat l k<=15):call gl tab n 1000390 [.ptr 100002 [k]] [(100000,lp2),(100001,.fix .sc (i64 c)),(100002,.grow .sc (ns l))] =
  some (.bool true,[(100000,lp2),(100001,.fix .sc (i64 c)),(100002,.grow .sc (ns (if nat l k=c/\c<15 then l.set k (c+1)else l)))],[]):=by
 obtain⟨d,rfl⟩:=wB h
 have hx1:=ns_at hk
 have hs:=ns_set l k (c+1)
 rw[zei (fd:=zn0) rfl rfl]
 by_cases h1:nat l k=c
 . rw[h1]at hx1
   by_cases h2:c<15
   . rw[if_pos ⟨h1,h2⟩,<-hs]
     simp(disch:=apply zq;omega) only[go_sem,simprocAttr,↓Nat.reduceEqDiff,xx,zn0,z1d,z05,lp2,hx1,ns_length,beq_self_eq_true]
   . rw[if_neg (fun h=>h2 h.2)]
     simp(disch:=apply zq;omega) only[go_sem,simprocAttr,↓Nat.reduceEqDiff,xx,zn0,z1d,z05,lp2,hx1,ns_length,beq_self_eq_true]
 . rw[if_neg (fun h=>h1 h.1)]
   have h3:(nat l k==c)=false:=by rw[beq_eq_false_iff_ne];exact h1
   simp(disch:=apply zq;omega) only[go_sem,simprocAttr,↓Nat.reduceEqDiff,xx,zn0,z1d,z05,lp2,hx1,ns_length,h3]
theorem z7z (h:1<=n)(l:List Int)(N:Nat)(p:Nat->Nat):call gl tab n 68 [.sl 100000 [] 0 N,.agg (P4 p)] [(100000,.grow .sc (ns l))] =
  some (.fn 91 [.ptr 20000 [],.ptr 20001 []],[(100000,.grow .sc (ns l))],[.fix (.ar 4 .sc) (.agg (P4 p)),.fix .sc (.sl 100000 [] 0 N)]):=by
 obtain⟨d,rfl⟩:=wB h
 rw[za5 (fd:=fd68) rfl]
 simp(disch:=apply zq;omega) only[go_sem,simprocAttr,↓Nat.reduceEqDiff,xx,fd68,m68,P4]
def S43b (N:Nat)(l:List Int)(c:Int)(p:Nat->Nat)(i:Nat):St :=
 ⟨[.set 7 (i64 i),.set 6 (.agg (P4 p)),.set 2 (.ptr 100003 []),.set 0 (.yld 100000)],[(100004,.grow .sc (ns l)),(100003,.fix .sc (.sl 100004 [] 0 N)),(100002,.fix (.ar 4 .sc) (.agg (P4 p))),(100001,.fix .sc (i64 c)),(100000,lp2)]⟩
theorem z8n {l:List Int}{p:Nat->Nat}{c:Int}(h:Cs l)(hc:0<=c/\c<=15):∀i,Cs (ad l p c i)
 | 0=>h
 | i+1=>by
   rw[ad];split
   . rename_i h2
     intro j hj
     rw[wH]at hj
     by_cases hj2:p i=j
     . subst hj2
       have:nat ((ad l p c i).set (p i) (c+1)) (p i)=c+1:=by simp[nat,wE,hj]
       rw[this];omega
     . have:nat ((ad l p c i).set (p i) (c+1)) j=nat (ad l p c i) j:=by simp[nat,wE,List.getElem?_set,hj2]
       rw[this];exact z8n h hc i j hj
   . exact z8n h hc i
set_option maxHeartbeats 1000000 in
theorem qeo (h:2<=n){l:List Int}{p:Nat->Nat}{c:Int}(hc:0<=c/\c<=15)(hp:∀i,i<4->p i<l.length)(hl:l.length<2^20)(hcs:Cs l) :
  call gl tab n 91 [.yld 100000,.ptr 100002 [],.ptr 100003 []] [(100000,lp2),(100001,.fix .sc (i64 c)),(100002,.fix (.ar 4 .sc) (.agg (P4 p))),(100003,.fix .sc (.sl 100004 [] 0 l.length)),(100004,.grow .sc (ns l))] =
   some (.tup [],[(100000,lp2),(100001,.fix .sc (i64 c)),(100002,.fix (.ar 4 .sc) (.agg (P4 p))),(100003,.fix .sc (.sl 100004 [] 0 l.length)),(100004,.grow .sc (ns (ad l p c 4)))],[]):=by
 obtain⟨d,rfl⟩:=wB h
 have hs:∀i,i<4->zba [.slot 0,.slot 2,.slot 6,.slot 7] (evC gl (call gl tab (d+1)) L43 (S43b l.length (ad l p c i) c p i))=some (S43b l.length (ad l p c (i+1)) c p (i+1)):=fun i hi=>by
  have hy:=z9x p i hi
  have hlp:=zoe p
  have hsc:=zy8 p
  have hpi:=hp i hi
  have hal:=zf3 l p c i
  have c1:=@zz9 gl (d+1) (by omega) c hc (ad l p c i) (p i) (by omega) (z8n hcs hc i (p i) (by omega))
  have e:ad l p c (i+1)=if nat (ad l p c i) (p i)=c/\c<15 then(ad l p c i).set (p i) (c+1)else ad l p c i:=rfl
  rw[<-e]at c1
  rw[S43b,S43b]
  simp only[lp2]at c1
  generalize P4 p=q at *
  generalize ad l p c (i+1)=l2 at *
  generalize ad l p c i=l1 at *
  simp(disch:=apply zq;omega) only[go_sem,simprocAttr,↓Nat.reduceEqDiff,xx,L43,m91,lp2,hy,hlp,hsc,ns_length,hal,c1]
 simp only[L43,m91]at hs
 have hlp:=zoe p
 have hsc:=zy8 p
 rw[za5 (fd:=fd91) rfl]
 generalize hq:P4 p=q at *
 simp(disch:=apply zq;omega) only[go_sem,simprocAttr,↓Nat.reduceEqDiff,xx,fd91,m91,lp2,hlp,hsc]
 rw[zaj (fun i=>S43b l.length (ad l p c i) c p i) 4 (by unfold LF;omega)]
 . rw[S43b,hq];simp(disch:=apply zq;omega) only[go_sem,simprocAttr,↓Nat.reduceEqDiff,xx,lp2]
 . rw[S43b,hq];simp(disch:=apply zq;omega) only[go_sem,simprocAttr,↓Nat.reduceEqDiff,xx,lp2,ad]
 . exact hs
 . rw[S43b,hq];simp(disch:=apply zq;omega) only[go_sem,simprocAttr,↓Nat.reduceEqDiff,xx,lp2]
theorem cloneI_at (h:1<=n){f:Bool}{l:List Int}(hl:l.length<2^20):call gl tab n 49 [.lst f .sc (ns l)] []=some (.sl 20000 [] 0 l.length,[],[.grow .sc (ns l)]):=by
 obtain⟨d,rfl⟩:=wB h
 rw[zei (fd:=fd49) rfl rfl]
 have h1:l.length<=LIM:=by unfold LIM;omega
 simp[zh1,ns_length,h1,Sh.beq,Sh.beqs]
end
end Go.Proofs.S97.K
namespace Go.Proofs.S97.K
open Go Go.Ev Go.Proofs
section
variable {gl :Gl} {n:Nat} [Nonempty (H.GlK gl)]
structure Sk (w:Nat)(s a:Int)(l:List Int):Prop where
 kw:1<=w/\w<=4096
 ks:1<=s/\s<=1048576
 ka:0<=a/\a<s
 kl:l.length=4*w
 kc:Cs l
def adL (w:Nat)(l:List Int)(key:List UInt8):List Int:=ad l (pl key w) (lea l (pl key w) 4) 4
theorem zhw (w:Nat)(l:List Int)(key:List UInt8):(adL w l key).length=l.length:=zf3 _ _ _ _
theorem qkl {x y:Int}(hx:0<=x/\x<=15)(hy:0<=y/\y<=15):0<=mn x y/\mn x y<=15:=by unfold mn;split<;>omega
theorem zvf {l:List Int}(hc:Cs l){p:Nat->Nat}(hp:∀i,i<4->p i<l.length):∀i,i<=4->0<=lea l p i/\lea l p i<=15
 | 0,_=>by simp[lea]
 | i+1,h=>by rw[lea];exact qkl (zvf hc hp i (by omega)) (hc _ (hp i (by omega)))
theorem z4i {w:Nat}{s a:Int}{l:List Int}(h:Sk w s a l)(key:List UInt8):Cs (adL w l key) :=
 z8n h.kc (zvf h.kc (fun i hi=>by rw[h.kl];exact zlu h.kw.1 hi) 4 (wC 4)) 4
def addR (w:Nat)(s a:Int)(l:List Int)(key:List UInt8):Int×List Int:=if a+1=s then((a+1)/2,hlf (adL w l key) l.length)else(a+1,adL w l key)
set_option maxHeartbeats 2000000 in
theorem add_at (h:12<=n){key:List UInt8}(hk:key.length<=5000){w:Nat}{s a:Int}{f:Bool}{l:List Int}(hv:Sk w s a l) :
  call gl tab n 39 [.agg [i64 w,i64 s,i64 a,.lst f .sc (ns l)],.str key] []=some (.agg [i64 w,i64 s,i64 (addR w s a l key).1,.lst false .sc (ns (addR w s a l key).2)],[],[]):=by
 obtain⟨d,rfl⟩:=wB h
 have hl:=hv.kl
 have hw:=hv.kw
 have hsa:=hv.ks
 have haa:=hv.ka
 have hp:∀i,i<4->pl key w i<l.length:=fun i hi=>by rw[hl];exact zlu hw.1 hi
 have c31:=@of_at gl (d+11) _ (by omega) key hk w hw s a f l
 have c32:=@cloneI_at gl (d+11) (by omega) f l (by omega)
 have c33:=@zve gl (d+11) (by omega) false l (pl key w) hp (by omega)
 have c34:=@z7z gl (d+11) (by omega) l l.length (pl key w)
 have hb:=zvf hv.kc hp 4 (wC 4)
 have c43:=@qeo gl (d+11) (by omega) l (pl key w) (lea l (pl key w) 4) hb hp (by omega) hv.kc
 have hcs:=z4i hv key
 have hal:=zhw w l key
 have c21:=@z2b gl (d+11) (by omega) w s (a+1) (adL w l key) (by omega) (by omega) hcs
 rw[hal]at c21
 have hlp:=zoe (pl key w)
 have hsc:=zy8 (pl key w)
 have hft:=ns_take' (adL w l key)
 have hft0:=ns_take' l
 have hhl:=zci (adL w l key) l.length
 have hft2:=ns_take' (hlf (adL w l key) l.length)
 have him:=ns_noImms l
 rw[hhl]at hft2
 rw[hal]at hft
 simp only[lp2]at c43
 simp only[S97.K.hv]at c21
 unfold addR
 rw[<-adL]at c43
 generalize hlf (adL w l key) l.length=H2 at *
 generalize adL w l key=A at *
 generalize lea l (pl key w) 4=c at *
 generalize P4 (pl key w)=q at *
 rw[zaf (fd:=fd39) rfl]
 by_cases h1:a+1=s
 . have h2:(a+1==s)=true:=by rw[h1];exact beq_self_eq_true s
   rw[if_pos h1]
   subst h1
   simp(disch:=apply zq;omega) only[go_sem,simprocAttr,↓Nat.reduceEqDiff,xx,fd39,m39,c31,c32,c33,c34,c43,c21,hlp,hsc,ns_length,hal,hft,hft0,hft2,him,h2]
 . have h2:(a+1==s)=false:=by rw[beq_eq_false_iff_ne];exact h1
   rw[if_neg h1]
   simp(disch:=apply zq;omega) only[go_sem,simprocAttr,↓Nat.reduceEqDiff,xx,fd39,m39,c31,c32,c33,c34,c43,hlp,hsc,ns_length,hal,hft,hft0,him,h2]
end
end Go.Proofs.S97.K
