/-
  Plants: the places of a kind, the network. No condition.
-/
import Derived.Test.YtaloneiaejhopaaDoorW50u
set_option linter.all false
open List renaming length_append->wB,isEmpty_nil->wC,nil_append->wD,length_map->wE,take_of_length_le->wF,length_nil->wG,length_take->wH,getElem?_eq_getElem->wJ,append_assoc->wK,take_length->wL,map_append->wM,isEmpty_eq_false_iff->wN,map_nil->wO,length_singleton->wP,mem_of_getElem?->wQ,take_succ->wR
namespace Go.Proofs.S50
open Go Go.Ev Go.Proofs Go.Fl
variable {gl :Gl} {n:Nat}
theorem zcw (p:List Sp)(kd:Int):∀i,(ofK p kd i).length<=i
 | 0=>Nat.le_refl _
 | i+1=>by
   have:=zcw p kd i
   rw[ofK];split
   . rw[wB,wP];omega
   . omega
def L52 :MC:=match m52 with| .seq _ (.seq _ (.seq (.seq _ (.block _ (.loop _ b))) _))=>b|_=>.skip
abbrev K52 :List Kp:=[.slot 1,.own 5 5005 .sc,.slot 9,.slot 10,.slot 11]
def S52 (q:PF)(p:List Sp)(kd:Int)(i:Nat):St:=⟨[.set 11 (i64 (i:Int)),.set 10 (i64 (p.length:Int)),.set 9 (.lst q.b q.s (ps p)),.set 5 (.sl 5005 [] 0 (ofK p kd i).length),.set 1 (i64 kd)],[(5005,.grow .sc (us (ofK p kd i)))]⟩
theorem qf9 {d:Nat}{q:PF}{p:List Sp}{r:List Rd}(hq:PFOk q p r)(hp:p.length<=100){kd:Int}{i:Nat}(hi:i<p.length):zaz K52 (evC gl (call gl tab d) L52 (S52 q p kd i))=some (S52 q p kd (i+1)):=by
 have hs:q.s=sSp:=hq.s.resolve_left fun h=>by rw[h]at hi;simp at hi
 have x1:=zen hi
 have hl:=zcw p kd i
 have l1:(ofK p kd i).length+1<=LIM:=by unfold LIM;omega
 have tk:∀(u:List AV) (v:AV),(u++[v]).take (u.length+1)=u++[v]:=fun u v=>wF (by simp)
 have ua:=zkq (ofK p kd i) i
 have ul:=zao (ofK p kd i)
 obtain⟨qb,qs,qc,qt⟩:=q
 simp only at hs
 subst hs
 by_cases e:(spt p i).kd=kd
 . have e1:ofK p kd (i+1)=ofK p kd i++[i]:=by rw[ofK,if_pos e]
   have e2:((spt p i).kd==kd)=true:=by simpa using e
   have lla:(ofK p kd i++[i]).length=(ofK p kd i).length+1:=by simp
   unfold S52
   rw[e1,lla,ua]
   generalize us (ofK p kd i)=ul0 at *
   generalize (ofK p kd i).length=ll at *
   subst ul
   simp(disch:=apply zq;omega) only[go_sem,simprocAttr,↓Nat.reduceEqDiff,xx,L52,m52,zac,x1,e2,l1,tk]
 . have e1:ofK p kd (i+1)=ofK p kd i:=by rw[ofK,if_neg e]
   have e2:((spt p i).kd==kd)=false:=by rw[beq_eq_false_iff_ne];exact e
   unfold S52
   rw[e1]
   simp(disch:=apply zq;omega) only[go_sem,simprocAttr,↓Nat.reduceEqDiff,xx,L52,m52,zac,x1,e2]
theorem of_at (h:1<=n){q:PF}{p:List Sp}{r:List Rd}(hq:PFOk q p r)(hp:p.length<=100)(kd:Int):call gl tab n 52 [plV q p r,i64 kd] []=some (.sl 20000 [] 0 (ofK p kd p.length).length,[],[.grow .sc (us (ofK p kd p.length))]):=by
 obtain⟨d,rfl⟩:=Nat.exists_eq_add_of_le' h
 have hs:=fun i hi=>@qf9 gl d q p r hq hp kd i hi
 simp only[L52,m52]at hs
 rw[zai (fd:=fd52) rfl]
 simp(disch:=apply zq;omega) only[go_sem,simprocAttr,↓Nat.reduceEqDiff,xx,fd52,m52,zac]
 rw[zak (S52 q p kd) p.length (by unfold LF;omega)]
 . simp(disch:=apply zq;omega) only[go_sem,simprocAttr,↓Nat.reduceEqDiff,xx,S52,zac,zao]
 . simp(disch:=apply zq;omega) only[go_sem,simprocAttr,↓Nat.reduceEqDiff,xx,S52,ofK,us,wO,wG]
 . exact hs
 . simp(disch:=apply zq;omega) only[go_sem,simprocAttr,↓Nat.reduceEqDiff,xx,S52,zac]
def nL (a:List Ar):AV:=if a.isEmpty then .lst true .sc []else .sl 6031 [] 0 a.length
def nC (N:Int)(a:List Ar):AV:=if a.isEmpty then .agg [i64 N,nL a]else .aggR [i64 N,nL a]
def nH (a:List Ar):Hp:=if a.isEmpty then []else [(6031,.grow yA4 (rs a))]
abbrev sN2 :Sh:=.st [.sc,.sc]
def H19 (q:PF)(p:List Sp)(r:List Rd)(N:Int)(a:List Ar)(x:Hp):Hp:=nH a++(x++[(3,.fix sN2 (nC N a)),(2,.fix sN2 zA2),(1,.fix sPl (plV q p r))])
abbrev N19 (p:List Sp):Int:=2+2*(p.length:Int)
theorem tkS {L:List Nat}{j i:Nat}(h:L[j]? =some i):L.take (j+1)=L.take j++[i]:=by
 rw[wR,h];rfl
abbrev LS (p:List Sp):List Nat:=ofK p 1 p.length
abbrev LO (p:List Sp):List Nat:=ofK p 3 p.length
def A1 (p:List Sp)(j:Nat):List Ar:=aP p p.length++aS p ((LS p).take j)
def A2 (p:List Sp)(j:Nat):List Ar:=aP p p.length++aS p (LS p)++aO p ((LO p).take j)
def A3 (p:List Sp)(r:List Rd)(j:Nat):List Ar:=aP p p.length++aS p (LS p)++aO p (LO p)++aR (r.take j)
theorem nle {a:List Ar}{n:Nat}(h:a.length=n)(hn:0<n):a.isEmpty=false:=by
 rw[wN];rintro rfl;simp at h;omega
def L19 :MC:=match m19 with| .seq _ (.seq _ (.seq (.seq _ (.block _ (.loop _ b))) _))=>b|_=>.skip
abbrev K19 :List Kp:=[.slot 1,.slot 2,.slot 3,.slot 19,.slot 20,.slot 21,.key 1,.key 2,.key 3,.mv 3 [1] 6031]
def S19 (q:PF)(p:List Sp)(r:List Rd)(i:Nat):St:=⟨[.set 21 (i64 (i:Int)),.set 20 (i64 (p.length:Int)),.set 19 (.lst q.b q.s (ps p)),.set 3 (.ptr 3 []),.set 2 (.ptr 2 []),.set 1 (.ptr 1 [])],H19 q p r (N19 p) (aP p i) []⟩
section
variable {d :Nat} {q:PF} {p:List Sp} {r:List Rd} (hq:PFOk q p r) (hk:PK p r)
include hq hk
theorem qgm {i:Nat}(hi:i<p.length):zaz K19 (evC gl (call gl tab d) L19 (S19 q p r i))=some (S19 q p r (i+1)):=by
 have hp:=hk.ok.pn
 have hr:=hk.ok.rn
 have hs:=zl8 hq hp hr hi
 have x1:=zen hi
 have e:aP p (i+1)=aP p i++[⟨2+2*i,3+2*i,(spt p i).cp,0⟩]:=rfl
 have ea:=zv2 (aP p i) ⟨2+2*i,3+2*i,(spt p i).cp,0⟩
 have el:=zc8 p i
 have l1:i+1<=LIM:=by unfold LIM;omega
 have n1:((2+2*i:Nat):Int)=2+2*(i:Int):=by omega
 have n2:((3+2*i:Nat):Int)=3+2*(i:Int):=by omega
 have tk:∀(u:List AV) (v:AV),(u++[v]).take (u.length+1)=u++[v]:=fun u v=>wF (by simp)
 have rl:=zah (aP p i)
 obtain⟨qb,qs,qc,qt⟩:=q
 simp only at hs
 subst hs
 unfold S19 H19
 rw[e]
 simp only[n1,n2]at ea
 cases i with
 | zero =>
   have e0:aP p 0=[]:=rfl
   rw[e0]at *
   simp(disch:=apply zq;omega) only[go_sem,simprocAttr,↓Nat.reduceEqDiff,xx,L19,m19,nC,nL,nH,zac,x1,wC,wD,List.isEmpty_cons,rs,List.map_cons,wO,wP,l1]
   rfl
 | succ j =>
   have h1:(aP p (j+1)).isEmpty=false:=by rw[wN];exact fun h=>by rw[h]at el;simp at el
   have h2:(aP p (j+1)++[(⟨2+2*(j+1),3+2*(j+1),(spt p (j+1)).cp,0⟩:Ar)]).isEmpty=false:=by simp
   have lla:(aP p (j+1)++[(⟨2+2*(j+1),3+2*(j+1),(spt p (j+1)).cp,0⟩:Ar)]).length=j+1+1:=by rw[wB,el];rfl
   unfold nC nL nH
   rw[h1,h2,lla,ea,el]
   rw[el]at rl
   generalize aP p (j+1)=a0 at *
   generalize rs a0=ul0 at *
   simp(disch:=apply zq;omega) only[go_sem,simprocAttr,↓Nat.reduceEqDiff,xx,L19,m19,zac,x1,l1,tk,rl,n1,n2]
def L19b :MC:=match m19 with| .seq _ (.seq _ (.seq _ (.seq (.seq _ (.block _ (.loop _ b))) _)))=>b|_=>.skip
abbrev K19b :List Kp:=[.slot 1,.slot 2,.slot 3,.slot 42,.slot 43,.slot 44,.key 1,.key 2,.key 3,.key 42,.mv 3 [1] 6031]
def S19b (q:PF)(p:List Sp)(r:List Rd)(j:Nat):St:=⟨[.set 44 (i64 (j:Int)),.set 43 (i64 ((LS p).length:Int)),.set 42 (.sl 42 [] 0 (LS p).length),.set 3 (.ptr 3 []),.set 2 (.ptr 2 []),.set 1 (.ptr 1 [])],H19 q p r (N19 p) (A1 p j) [(42,.grow .sc (us (LS p)))]⟩
theorem qbn {j:Nat}(hj:j<(LS p).length):zaz K19b (evC gl (call gl tab d) L19b (S19b q p r j))=some (S19b q p r (j+1)):=by
 have hp:=hk.ok.pn
 have hr:=hk.ok.rn
 have hL:(LS p).length<=p.length:=zcw p 1 p.length
 obtain⟨i,hLi⟩:∃i,(LS p)[j]? =some i:=⟨_,wJ hj⟩
 have him:=(zdj.1 (wQ hLi)).1
 have hs:=zl8 hq hp hr him
 have x1:=zen him
 have x2:=zjs hLi
 have ul:=zao (LS p)
 have e:A1 p (j+1)=A1 p j++[⟨0,2+2*i,(spt p i).cp,0⟩]:=by
  unfold A1;rw[tkS hLi];unfold aS;rw[wM,<-wK];rfl
 have ea:=zv2 (A1 p j) ⟨0,2+2*i,(spt p i).cp,0⟩
 have el:(A1 p j).length=p.length+j:=by unfold A1 aS;rw[wB,zc8,wE,wH];omega
 have l1:p.length+j+1<=LIM:=by unfold LIM;omega
 have n1:((2+2*i:Nat):Int)=2+2*(i:Int):=by omega
 have tk:∀(u:List AV) (v:AV),(u++[v]).take (u.length+1)=u++[v]:=fun u v=>wF (by simp)
 have rl:=zah (A1 p j)
 have h1:=nle el (by omega)
 have lla:(A1 p j++[(⟨0,2+2*i,(spt p i).cp,0⟩:Ar)]).length=p.length+j+1:=by rw[wB,el];rfl
 have h2:=nle lla (by omega)
 obtain⟨qb,qs,qc,qt⟩:=q
 simp only at hs
 subst hs
 unfold S19b H19
 rw[e]
 simp only[n1]at ea
 unfold nC nL nH
 rw[h1,h2,lla,ea,el]
 rw[el]at rl
 generalize A1 p j=a0 at *
 generalize rs a0=ul0 at *
 generalize us (LS p)=u1 at *
 generalize (LS p).length=m1 at *
 simp(disch:=apply zq;omega) only[go_sem,simprocAttr,↓Nat.reduceEqDiff,xx,L19b,m19,zac,x1,x2,l1,tk,rl,n1,ul]
def L19c :MC:=match m19 with| .seq _ (.seq _ (.seq _ (.seq _ (.seq (.seq _ (.block _ (.loop _ b))) _))))=>b|_=>.skip
abbrev K19c :List Kp:=[.slot 1,.slot 2,.slot 3,.slot 65,.slot 66,.slot 67,.key 1,.key 2,.key 3,.key 65,.mv 3 [1] 6031]
def S19c (q:PF)(p:List Sp)(r:List Rd)(j:Nat):St:=⟨[.set 67 (i64 (j:Int)),.set 66 (i64 ((LO p).length:Int)),.set 65 (.sl 65 [] 0 (LO p).length),.set 3 (.ptr 3 []),.set 2 (.ptr 2 []),.set 1 (.ptr 1 [])],H19 q p r (N19 p) (A2 p j) [(65,.grow .sc (us (LO p)))]⟩
theorem qbm {j:Nat}(hj:j<(LO p).length):zaz K19c (evC gl (call gl tab d) L19c (S19c q p r j))=some (S19c q p r (j+1)):=by
 have hp:=hk.ok.pn
 have hr:=hk.ok.rn
 have hL:(LO p).length<=p.length:=zcw p 3 p.length
 have hL1:(LS p).length<=p.length:=zcw p 1 p.length
 obtain⟨i,hLi⟩:∃i,(LO p)[j]? =some i:=⟨_,wJ hj⟩
 have him:=(zdj.1 (wQ hLi)).1
 have hs:=zl8 hq hp hr him
 have x1:=zen him
 have x2:=zjs hLi
 have ul:=zao (LO p)
 have e:A2 p (j+1)=A2 p j++[⟨3+2*i,1,(spt p i).cp,0⟩]:=by
  unfold A2;rw[tkS hLi];unfold aO;rw[wM,<-wK];rfl
 have ea:=zv2 (A2 p j) ⟨3+2*i,1,(spt p i).cp,0⟩
 have el:(A2 p j).length=p.length+(LS p).length+j:=by unfold A2 aS aO;rw[wB,wB,zc8,wE,wE,wH];omega
 have l1:p.length+(LS p).length+j+1<=LIM:=by unfold LIM;omega
 have n1:((3+2*i:Nat):Int)=3+2*(i:Int):=by omega
 have tk:∀(u:List AV) (v:AV),(u++[v]).take (u.length+1)=u++[v]:=fun u v=>wF (by simp)
 have rl:=zah (A2 p j)
 have h1:=nle el (by omega)
 have lla:(A2 p j++[(⟨3+2*i,1,(spt p i).cp,0⟩:Ar)]).length=p.length+(LS p).length+j+1:=by rw[wB,el];rfl
 have h2:=nle lla (by omega)
 obtain⟨qb,qs,qc,qt⟩:=q
 simp only at hs
 subst hs
 unfold S19c H19
 rw[e]
 simp only[n1]at ea
 unfold nC nL nH
 rw[h1,h2,lla,ea,el]
 rw[el]at rl
 generalize A2 p j=a0 at *
 generalize rs a0=ul0 at *
 generalize us (LO p)=u1 at *
 generalize (LO p).length=m1 at *
 generalize (LS p).length=m2 at *
 simp(disch:=apply zq;omega) only[go_sem,simprocAttr,↓Nat.reduceEqDiff,xx,L19c,m19,zac,x1,x2,l1,tk,rl,n1,ul]
def L19d :MC:=match m19 with| .seq _ (.seq _ (.seq _ (.seq _ (.seq _ (.seq (.seq _ (.block _ (.loop _ b))) _)))))=>b|_=>.skip
abbrev K19d :List Kp:=[.slot 2,.slot 3,.slot 88,.slot 89,.slot 90,.key 2,.key 3,.mv 3 [1] 6031]
def S19d (q:PF)(p:List Sp)(r:List Rd)(j:Nat):St:=⟨[.set 90 (i64 (j:Int)),.set 89 (i64 (r.length:Int)),.set 88 (.lst q.c q.t (ds r)),.set 3 (.ptr 3 []),.set 2 (.ptr 2 [])],nH (A3 p r j)++[(3,.fix sN2 (nC (N19 p) (A3 p r j))),(2,.fix sN2 zA2)]⟩
theorem qbl {j:Nat}(hj:j<r.length):zaz K19d (evC gl (call gl tab d) L19d (S19d q p r j))=some (S19d q p r (j+1)):=by
 have hp:=hk.ok.pn
 have hr:=hk.ok.rn
 have hL:(LO p).length<=p.length:=zcw p 3 p.length
 have hL1:(LS p).length<=p.length:=zcw p 1 p.length
 have hs:=z4i hq hp hr hj
 have x1:=z4j hj
 obtain⟨f0,f1,t0,t1,ne⟩:=hk.ok.rf j hj
 have hrj:r[j]? =some (rdt r j):=by unfold rdt;rw[List.getD_eq_getElem?_getD,wJ hj];rfl
 have htk:r.take (j+1)=r.take j++[rdt r j]:=by rw[wR,hrj];rfl
 have e:A3 p r (j+1)=A3 p r j++[⟨3+2*(rdt r j).f.toNat,2+2*(rdt r j).t.toNat,(rdt r j).c,(rdt r j).k⟩]:=by
  unfold A3;rw[htk];unfold aR;rw[wM,<-wK];rfl
 have ea:=zv2 (A3 p r j) ⟨3+2*(rdt r j).f.toNat,2+2*(rdt r j).t.toNat,(rdt r j).c,(rdt r j).k⟩
 have el:(A3 p r j).length=p.length+(LS p).length+(LO p).length+j:=by unfold A3 aS aO aR;rw[wB,wB,wB,zc8,wE,wE,wE,wH];omega
 have l1:p.length+(LS p).length+(LO p).length+j+1<=LIM:=by unfold LIM;omega
 have n1:((3+2*(rdt r j).f.toNat:Nat):Int)=3+2*(rdt r j).f:=by omega
 have n2:((2+2*(rdt r j).t.toNat:Nat):Int)=2+2*(rdt r j).t:=by omega
 have tk:∀(u:List AV) (v:AV),(u++[v]).take (u.length+1)=u++[v]:=fun u v=>wF (by simp)
 have rl:=zah (A3 p r j)
 have h1:=nle el (by omega)
 have lla:(A3 p r j++[(⟨3+2*(rdt r j).f.toNat,2+2*(rdt r j).t.toNat,(rdt r j).c,(rdt r j).k⟩:Ar)]).length=p.length+(LS p).length+(LO p).length+j+1:=by rw[wB,el];rfl
 have h2:=nle lla (by omega)
 obtain⟨qb,qs,qc,qt⟩:=q
 simp only at hs
 subst hs
 unfold S19d
 rw[e]
 simp only[n1,n2]at ea
 unfold nC nL nH
 rw[h1,h2,lla,ea,el]
 rw[el]at rl
 generalize A3 p r j=a0 at *
 generalize rs a0=ul0 at *
 generalize (LO p).length=m1 at *
 generalize (LS p).length=m2 at *
 generalize rdt r j=x at *
 simp(disch:=apply zq;omega) only[go_sem,simprocAttr,↓Nat.reduceEqDiff,xx,L19d,m19,zaq,x1,l1,tk,rl]
theorem z1w (h:2<=n):call gl tab n 19 [plV q p r] []=some (nV (net p r) (netA p r).isEmpty (if(netA p r).isEmpty then .sc else yA4),[],[]):=by
 obtain⟨d,rfl⟩:=Nat.exists_eq_add_of_le' h
 have hp:=hk.ok.pn
 have hr:=hk.ok.rn
 have hL:(LO p).length<=p.length:=zcw p 3 p.length
 have hL1:(LS p).length<=p.length:=zcw p 1 p.length
 have hsa:=fun i hi=>@qgm gl (d+1) q p r hq hk i hi
 have hsb:=fun i hi=>@qbn gl (d+1) q p r hq hk i hi
 have hsc:=fun i hi=>@qbm gl (d+1) q p r hq hk i hi
 have hsd:=fun i hi=>@qbl gl (d+1) q p r hq hk i hi
 simp only[L19,L19b,L19c,L19d,m19]at hsa hsb hsc hsd
 have c1:=@of_at gl (d+1) (by omega) q p r hq hp 1
 have c3:=@of_at gl (d+1) (by omega) q p r hq hp 3
 by_cases hp0:p.length=0
 . have hp0:=List.length_eq_zero_iff.1 hp0
   subst hp0
   have hr0:r=[]:=by
    rcases r with _|⟨x,r⟩
    . rfl
    . have:=hk.ok.rf 0 (by simp)
      have h3:((([]:List Sp).length:Nat):Int)=0:=rfl
      omega
   subst hr0
   have e0:netA [] []=[]:=rfl
   have eS:LS []=[]:=rfl
   have eO:LO []=[]:=rfl
   have e1:A1 [] 0=[]:=rfl
   have e2:A2 [] 0=[]:=rfl
   have e3:A3 [] [] 0=[]:=rfl
   have e4:aP [] 0=[]:=rfl
   have el:List.length (α:=Sp) []=0:=rfl
   have el2:List.length (α:=Rd) []=0:=rfl
   have el3:ofK [] 1 0=[]:=rfl
   have el4:ofK [] 3 0=[]:=rfl
   rw[zai (fd:=fd19) rfl]
   simp(disch:=apply zq;omega) only[go_sem,simprocAttr,↓Nat.reduceEqDiff,xx,fd19,m19,zac,el]
   rw[zak (S19 q [] []) 0 (by unfold LF;omega)]
   . simp(disch:=apply zq;omega) only[go_sem,simprocAttr,↓Nat.reduceEqDiff,xx,S19,H19,nC,nL,nH,zac,c1,el,e4,wC,wD,el3,wG,zao]
     rw[zak (S19b q [] []) 0 (by unfold LF;omega)]
     . simp(disch:=apply zq;omega) only[go_sem,simprocAttr,↓Nat.reduceEqDiff,xx,S19b,H19,nC,nL,nH,c3,e1,wC,wD,eS,wG,el,el4,zao]
       rw[zak (S19c q [] []) 0 (by unfold LF;omega)]
       . simp(disch:=apply zq;omega) only[go_sem,simprocAttr,↓Nat.reduceEqDiff,xx,S19c,H19,nC,nL,nH,zaq,e2,wC,wD,eO,wG,el,el2]
         rw[zak (S19d q [] []) 0 (by unfold LF;omega)]
         . simp(disch:=apply zq;omega) only[go_sem,simprocAttr,↓Nat.reduceEqDiff,xx,S19d,zaq,nC,nL,nH,e3,wC,wD,el2,el]
           rfl
         . simp(disch:=apply zq;omega) only[go_sem,simprocAttr,↓Nat.reduceEqDiff,xx,S19d,zaq,nC,nL,nH,e3,wC,wD,el2,el]
         . exact hsd
         . simp(disch:=apply zq;omega) only[go_sem,simprocAttr,↓Nat.reduceEqDiff,xx,S19d,zaq,nC,nL,nH,e3,wC,wD,el2,el]
       . simp(disch:=apply zq;omega) only[go_sem,simprocAttr,↓Nat.reduceEqDiff,xx,S19c,H19,nC,nL,nH,e2,wC,wD,eO,wG,el]
       . exact hsc
       . simp(disch:=apply zq;omega) only[go_sem,simprocAttr,↓Nat.reduceEqDiff,xx,S19c,H19,nC,nL,nH,e2,wC,wD,eO,wG,el]
     . simp(disch:=apply zq;omega) only[go_sem,simprocAttr,↓Nat.reduceEqDiff,xx,S19b,H19,nC,nL,nH,e1,wC,wD,eS,wG,el,us,wO]
     . exact hsb
     . simp(disch:=apply zq;omega) only[go_sem,simprocAttr,↓Nat.reduceEqDiff,xx,S19b,H19,nC,nL,nH,e1,wC,wD,eS,wG,el]
   . simp(disch:=apply zq;omega) only[go_sem,simprocAttr,↓Nat.reduceEqDiff,xx,S19,H19,nC,nL,nH,zac,el,e4,wC,wD]
     rfl
   . exact hsa
   . simp(disch:=apply zq;omega) only[go_sem,simprocAttr,↓Nat.reduceEqDiff,xx,S19,H19,nC,nL,nH,zac,el,e4,wC,wD]
 have y0:=nle (zc8 p p.length) (by omega)
 have yl:=zc8 p p.length
 have z1:A1 p 0=aP p p.length:=by unfold A1 aS;simp
 have z2:A2 p 0=A1 p (LS p).length:=by unfold A2 A1 aO;rw[wL];simp
 have z3:A3 p r 0=A2 p (LO p).length:=by unfold A3 A2 aR;rw[wL];simp
 have z4:A3 p r r.length=netA p r:=by unfold A3 netA;rw[wL]
 have l1:(A1 p (LS p).length).length=p.length+(LS p).length:=by unfold A1 aS;rw[wB,zc8,wE,wH];omega
 have l2:(A2 p (LO p).length).length=p.length+(LS p).length+(LO p).length:=by unfold A2 aS aO;rw[wB,wB,zc8,wE,wE,wH];omega
 have l3:(netA p r).length=p.length+(LS p).length+(LO p).length+r.length:=zd3 p r
 have y1:=nle l1 (by omega)
 have y2:=nle l2 (by omega)
 have y3:=nle l3 (by omega)
 have rl:=zah (netA p r)
 have tk:(rs (netA p r)).take (netA p r).length=rs (netA p r):=wF (by omega)
 have en:((net p r).n:Int)=2+2*(p.length:Int):=by show((2+2*p.length:Nat):Int)=_;omega
 have ea:(net p r).a=netA p r:=rfl
 rw[zai (fd:=fd19) rfl]
 simp(disch:=apply zq;omega) only[go_sem,simprocAttr,↓Nat.reduceEqDiff,xx,fd19,m19,zac]
 rw[zak (S19 q p r) p.length (by unfold LF;omega)]
 . simp(disch:=apply zq;omega) only[go_sem,simprocAttr,↓Nat.reduceEqDiff,xx,S19,H19,nC,nL,nH,y0,yl,zac,c1]
   rw[zak (S19b q p r) (LS p).length (by unfold LF;omega)]
   . simp(disch:=apply zq;omega) only[go_sem,simprocAttr,↓Nat.reduceEqDiff,xx,S19b,H19,nC,nL,nH,y1,l1,c3]
     rw[zak (S19c q p r) (LO p).length (by unfold LF;omega)]
     . simp(disch:=apply zq;omega) only[go_sem,simprocAttr,↓Nat.reduceEqDiff,xx,S19c,H19,nC,nL,nH,y2,l2,zaq]
       rw[zak (S19d q p r) r.length (by unfold LF;omega)]
       . simp(disch:=apply zq;omega) only[go_sem,simprocAttr,↓Nat.reduceEqDiff,xx,S19d,nC,nL,nH,z4,y3,zaq,rl,tk,ea]
         unfold nV
         rw[en,ea]
       . simp(disch:=apply zq;omega) only[go_sem,simprocAttr,↓Nat.reduceEqDiff,xx,S19d,nC,nL,nH,z3,y2,l2,zaq]
       . exact hsd
       . simp(disch:=apply zq;omega) only[go_sem,simprocAttr,↓Nat.reduceEqDiff,xx,S19d,nC,nL,nH,z4,y3,l3,zaq]
     . simp(disch:=apply zq;omega) only[go_sem,simprocAttr,↓Nat.reduceEqDiff,xx,S19c,H19,nC,nL,nH,z2,y1,l1]
     . exact hsc
     . simp(disch:=apply zq;omega) only[go_sem,simprocAttr,↓Nat.reduceEqDiff,xx,S19c,H19,nC,nL,nH,y2,l2]
   . simp(disch:=apply zq;omega) only[go_sem,simprocAttr,↓Nat.reduceEqDiff,xx,S19b,H19,nC,nL,nH,z1,y0,yl]
   . exact hsb
   . simp(disch:=apply zq;omega) only[go_sem,simprocAttr,↓Nat.reduceEqDiff,xx,S19b,H19,nC,nL,nH,y1,l1]
 . simp(disch:=apply zq;omega) only[go_sem,simprocAttr,↓Nat.reduceEqDiff,xx,S19,H19,aP,nC,nL,nH,wC,wD,zac]
 . exact hsa
 . simp(disch:=apply zq;omega) only[go_sem,simprocAttr,↓Nat.reduceEqDiff,xx,S19,H19,nC,nL,nH,y0,yl,zac]
end
end Go.Proofs.S50
