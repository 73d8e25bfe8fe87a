/-
  Plants: the places of a kind, the network. No condition.
-/
import Derived.Test.YtaloneiaejhopaaGreatDoorW51G6x3
import Derived.Test.YtaloneiaejhopaaGreatDoorW51G2x3
set_option linter.all false
open Nat renaming reduceEqDiff->wB,exists_eq_add_of_le'->wC,lt_or_ge->wD,le_refl->wE,exists_eq_add_of_le->wF,zero_add->wG
open List renaming length_append->wH,getD_eq_getElem?_getD->wJ,isEmpty_nil->wK,getElem?_eq_getElem->wM,nil_append->wN,length_map->wO,take_of_length_le->wP,length_nil->wQ,append_assoc->wR,mem_of_getElem?->wS,length_set->wT,length_singleton->wU,length_take->wW,cons_append->wX,mem_append->wY,isEmpty_eq_false_iff->wZ,mem_map->w0,getElem?_eq_none->w1,map_nil->w2,take_length->w3,map_append->w5,getElem_of_mem->w6,mem_singleton->w7,isEmpty_iff->w8,take_succ->w9
namespace Go.Proofs.S51
open Go Go.Ev Go.Proofs Go.Fl
variable {gl :Gl} {n:Nat}
theorem dp (p:List Sp)(kd:Int):∀i,(ofK p kd i).length<=i
 | 0=>wE _
 | i+1=>by
   have:=dp p kd i;rw[ofK];split
   . rw[wH,wU];omega
   . omega
noncomputable def L52:MC:=wq 0 m60
def S52 (q:PF)(p:List Sp)(kd:Int)(i:Nat):St:=⟨[.set 11 (i64 (i:Int)),.set 10 (i64 (p.length:Int)),.set 9 (.lst q.b q.s (ps p)),.set 5 (.sl 5005 [] 0 (ofK p kd i).length),.set 1 (i64 kd)],[(5005,.grow .sc (us (ofK p kd i)))]⟩
theorem QS {d:Nat}{q:PF}{p:List Sp}{r:List Rd}(hq:PFOk q p r)(hp:p.length<=100){kd:Int}{i:Nat}(hi:i<p.length):aK K52 (evC gl (call gl tab d) L52 (S52 q p kd i))=some (S52 q p kd (i+1)):=by
 have hs:q.s=sSp:=hq.s.resolve_left fun h=>by rw[h]at hi;simp at hi
 have x1:=da hi;have hl:=dp p kd i;have l1:(ofK p kd i).length+1<=LIM:=by unfold LIM;omega
 have tk:∀(u:List AV) (v:AV),(u++[v]).take (u.length+1)=u++[v]:=fun u v=>wP (by simp)
 have ua:=dU (ofK p kd i) i;have ul:=aj (ofK p kd i);obtain⟨qb,qs,qc,qt⟩:=q;simp only at hs;subst hs;by_cases e:(spt p i).kd=kd
 . have e1:ofK p kd (i+1)=ofK p kd i++[i]:=by rw[ofK,if_pos e]
   have e2:((spt p i).kd==kd)=true:=by simpa using e
   have lla:(ofK p kd i++[i]).length=(ofK p kd i).length+1:=by simp
   unfold S52;rw[e1,lla,ua];generalize us (ofK p kd i)=ul0 at *
   generalize (ofK p kd i).length=ll at *
   subst ul;simp(disch:=apply zq;omega) only[go_sem,simprocAttr,↓wB,xx,L52,ah,x1,e2,l1,tk]
 . have e1:ofK p kd (i+1)=ofK p kd i:=by rw[ofK,if_neg e]
   have e2:((spt p i).kd==kd)=false:=by rw[beq_eq_false_iff_ne];exact e
   unfold S52;rw[e1];simp(disch:=apply zq;omega) only[go_sem,simprocAttr,↓wB,xx,L52,ah,x1,e2]
theorem IU (h:1<=n){q:PF}{p:List Sp}{r:List Rd}(hq:PFOk q p r)(hp:p.length<=100)(kd:Int):call gl tab n 60 [plV q p r,i64 kd] []=some (.sl 20000 [] 0 (ofK p kd p.length).length,[],[.grow .sc (us (ofK p kd p.length))]):=by
 obtain⟨d,rfl⟩:=wC h;have hs:=fun i hi=>@QS gl d q p r hq hp kd i hi
 simp only[L52,wq]at hs;rw[au (fd:=Td) rfl];simp(disch:=apply zq;omega) only[go_sem,simprocAttr,↓wB,xx,Td,m60,ah];rw[aE (S52 q p kd) p.length (by unfold LF;omega)]
 . simp(disch:=apply zq;omega) only[go_sem,simprocAttr,↓wB,xx,S52,ah,aj]
 . simp(disch:=apply zq;omega) only[go_sem,simprocAttr,↓wB,xx,S52,ofK,us,w2,wQ]
 . exact hs
 . simp(disch:=apply zq;omega) only[go_sem,simprocAttr,↓wB,xx,S52,ah]
def nL (a:List Ar):AV:=if a.isEmpty then .lst true .sc []else .sl 6031 [] 0 a.length
def nC (N:Int)(a:List Ar):AV:=if a.isEmpty then .agg [i64 N,nL a]else .aggR [i64 N,nL a]
def nH (a:List Ar):Hp:=if a.isEmpty then []else [(6031,.grow yA4 (rs a))]
abbrev sN2 :Sh:=.st [.sc,.sc]
def H19 (q:PF)(p:List Sp)(r:List Rd)(N:Int)(a:List Ar)(x:Hp):Hp:=nH a++(x++[(3,.fix sN2 (nC N a)),(2,.fix sN2 zA2),(1,.fix sPl (plV q p r))])
abbrev N19 (p:List Sp):Int:=2+2*(p.length:Int)
theorem tkS {L:List Nat}{j i:Nat}(h:L[j]? =some i):L.take (j+1)=L.take j++[i]:=by rw[w9,h];rfl
abbrev LS (p:List Sp):List Nat:=ofK p 1 p.length
abbrev LO (p:List Sp):List Nat:=ofK p 3 p.length
def A1 (p:List Sp)(j:Nat):List Ar:=aP p p.length++aS p ((LS p).take j)
def A2 (p:List Sp)(j:Nat):List Ar:=aP p p.length++aS p (LS p)++aO p ((LO p).take j)
def A3 (p:List Sp)(r:List Rd)(j:Nat):List Ar:=aP p p.length++aS p (LS p)++aO p (LO p)++aR (r.take j)
theorem nle {a:List Ar}{n:Nat}(h:a.length=n)(hn:0<n):a.isEmpty=false:=by rw[wZ];rintro rfl;simp at h;omega
noncomputable def L19:MC:=wq 0 m22
def S19 (q:PF)(p:List Sp)(r:List Rd)(i:Nat):St:=⟨[.set 21 (i64 (i:Int)),.set 20 (i64 (p.length:Int)),.set 19 (.lst q.b q.s (ps p)),.set 3 (.ptr 3 []),.set 2 (.ptr 2 []),.set 1 (.ptr 1 [])],H19 q p r (N19 p) (aP p i) []⟩
section
variable {d :Nat} {q:PF} {p:List Sp} {r:List Rd} (hq:PFOk q p r) (hk:PK p r)
include hq hk
theorem Q3 {i:Nat}(hi:i<p.length):aK K19 (evC gl (call gl tab d) L19 (S19 q p r i))=some (S19 q p r (i+1)):=by
 have hp:=hk.ok.pn;have hr:=hk.ok.rn;have hs:=kS hq hp hr hi;have x1:=da hi;have e:aP p (i+1)=aP p i++[⟨2+2*i,3+2*i,(spt p i).cp,0⟩]:=rfl;have ea:=xL (aP p i) ⟨2+2*i,3+2*i,(spt p i).cp,0⟩;have el:=cM p i;have l1:i+1<=LIM:=by unfold LIM;omega
 have n1:((2+2*i:Nat):Int)=2+2*(i:Int):=by omega
 have n2:((3+2*i:Nat):Int)=3+2*(i:Int):=by omega
 have tk:∀(u:List AV) (v:AV),(u++[v]).take (u.length+1)=u++[v]:=fun u v=>wP (by simp)
 have rl:=ak (aP p i);obtain⟨qb,qs,qc,qt⟩:=q;simp only at hs;subst hs;unfold S19 H19;rw[e];simp only[n1,n2]at ea
 cases i with
 | zero =>
   have e0:aP p 0=[]:=rfl;rw[e0]at *
   simp(disch:=apply zq;omega) only[go_sem,simprocAttr,↓wB,xx,L19,nC,nL,nH,ah,x1,wK,wN,List.isEmpty_cons,rs,List.map_cons,w2,wU,l1];rfl
 | succ j =>
   have h1:(aP p (j+1)).isEmpty=false:=by rw[wZ];exact fun h=>by rw[h]at el;simp at el
   have h2:(aP p (j+1)++[(⟨2+2*(j+1),3+2*(j+1),(spt p (j+1)).cp,0⟩:Ar)]).isEmpty=false:=by simp
   have lla:(aP p (j+1)++[(⟨2+2*(j+1),3+2*(j+1),(spt p (j+1)).cp,0⟩:Ar)]).length=j+1+1:=by rw[wH,el];rfl
   unfold nC nL nH;rw[h1,h2,lla,ea,el];rw[el]at rl;generalize aP p (j+1)=a0 at *
   generalize rs a0=ul0 at *
   simp(disch:=apply zq;omega) only[go_sem,simprocAttr,↓wB,xx,L19,ah,x1,l1,tk,rl,n1,n2]
noncomputable def Uv:MC:=wq 2 m22
def uE (q:PF)(p:List Sp)(r:List Rd)(j:Nat):St:=⟨[.set 44 (i64 (j:Int)),.set 43 (i64 ((LS p).length:Int)),.set 42 (.sl 42 [] 0 (LS p).length),.set 3 (.ptr 3 []),.set 2 (.ptr 2 []),.set 1 (.ptr 1 [])],H19 q p r (N19 p) (A1 p j) [(42,.grow .sc (us (LS p)))]⟩
theorem Mx {j:Nat}(hj:j<(LS p).length):aK XA (evC gl (call gl tab d) Uv (uE q p r j))=some (uE q p r (j+1)):=by
 have hp:=hk.ok.pn;have hr:=hk.ok.rn;have hL:(LS p).length<=p.length:=dp p 1 p.length;obtain⟨i,hLi⟩:∃i,(LS p)[j]? =some i:=⟨_,wM hj⟩;have him:=(cZ.1 (wS hLi)).1;have hs:=kS hq hp hr him;have x1:=da him;have x2:=dy hLi;have ul:=aj (LS p);have e:A1 p (j+1)=A1 p j++[⟨0,2+2*i,(spt p i).cp,0⟩]:=by unfold A1;rw[tkS hLi];unfold aS;rw[w5,<-wR];rfl
 have ea:=xL (A1 p j) ⟨0,2+2*i,(spt p i).cp,0⟩;have el:(A1 p j).length=p.length+j:=by unfold A1 aS;rw[wH,cM,wO,wW];omega
 have l1:p.length+j+1<=LIM:=by unfold LIM;omega
 have n1:((2+2*i:Nat):Int)=2+2*(i:Int):=by omega
 have tk:∀(u:List AV) (v:AV),(u++[v]).take (u.length+1)=u++[v]:=fun u v=>wP (by simp)
 have rl:=ak (A1 p j);have h1:=nle el (by omega);have lla:(A1 p j++[(⟨0,2+2*i,(spt p i).cp,0⟩:Ar)]).length=p.length+j+1:=by rw[wH,el];rfl
 have h2:=nle lla (by omega);obtain⟨qb,qs,qc,qt⟩:=q;simp only at hs;subst hs;unfold uE H19;rw[e];simp only[n1]at ea;unfold nC nL nH;rw[h1,h2,lla,ea,el];rw[el]at rl;generalize A1 p j=a0 at *
 generalize rs a0=ul0 at *
 generalize us (LS p)=u1 at *
 generalize (LS p).length=m1 at *
 simp(disch:=apply zq;omega) only[go_sem,simprocAttr,↓wB,xx,Uv,ah,x1,x2,l1,tk,rl,n1,ul]
noncomputable def Uu:MC:=wq 4 m22
def uD (q:PF)(p:List Sp)(r:List Rd)(j:Nat):St:=⟨[.set 67 (i64 (j:Int)),.set 66 (i64 ((LO p).length:Int)),.set 65 (.sl 65 [] 0 (LO p).length),.set 3 (.ptr 3 []),.set 2 (.ptr 2 []),.set 1 (.ptr 1 [])],H19 q p r (N19 p) (A2 p j) [(65,.grow .sc (us (LO p)))]⟩
theorem Mw {j:Nat}(hj:j<(LO p).length):aK Xz (evC gl (call gl tab d) Uu (uD q p r j))=some (uD q p r (j+1)):=by
 have hp:=hk.ok.pn;have hr:=hk.ok.rn;have hL:(LO p).length<=p.length:=dp p 3 p.length;have hL1:(LS p).length<=p.length:=dp p 1 p.length;obtain⟨i,hLi⟩:∃i,(LO p)[j]? =some i:=⟨_,wM hj⟩;have him:=(cZ.1 (wS hLi)).1;have hs:=kS hq hp hr him;have x1:=da him;have x2:=dy hLi;have ul:=aj (LO p);have e:A2 p (j+1)=A2 p j++[⟨3+2*i,1,(spt p i).cp,0⟩]:=by unfold A2;rw[tkS hLi];unfold aO;rw[w5,<-wR];rfl
 have ea:=xL (A2 p j) ⟨3+2*i,1,(spt p i).cp,0⟩;have el:(A2 p j).length=p.length+(LS p).length+j:=by unfold A2 aS aO;rw[wH,wH,cM,wO,wO,wW];omega
 have l1:p.length+(LS p).length+j+1<=LIM:=by unfold LIM;omega
 have n1:((3+2*i:Nat):Int)=3+2*(i:Int):=by omega
 have tk:∀(u:List AV) (v:AV),(u++[v]).take (u.length+1)=u++[v]:=fun u v=>wP (by simp)
 have rl:=ak (A2 p j);have h1:=nle el (by omega);have lla:(A2 p j++[(⟨3+2*i,1,(spt p i).cp,0⟩:Ar)]).length=p.length+(LS p).length+j+1:=by rw[wH,el];rfl
 have h2:=nle lla (by omega);obtain⟨qb,qs,qc,qt⟩:=q;simp only at hs;subst hs;unfold uD H19;rw[e];simp only[n1]at ea;unfold nC nL nH;rw[h1,h2,lla,ea,el];rw[el]at rl;generalize A2 p j=a0 at *
 generalize rs a0=ul0 at *
 generalize us (LO p)=u1 at *
 generalize (LO p).length=m1 at *
 generalize (LS p).length=m2 at *
 simp(disch:=apply zq;omega) only[go_sem,simprocAttr,↓wB,xx,Uu,ah,x1,x2,l1,tk,rl,n1,ul]
noncomputable def Ut:MC:=wq 6 m22
def uC (q:PF)(p:List Sp)(r:List Rd)(j:Nat):St:=⟨[.set 90 (i64 (j:Int)),.set 89 (i64 (r.length:Int)),.set 88 (.lst q.c q.t (ds r)),.set 3 (.ptr 3 []),.set 2 (.ptr 2 [])],nH (A3 p r j)++[(3,.fix sN2 (nC (N19 p) (A3 p r j))),(2,.fix sN2 zA2)]⟩
theorem Mv {j:Nat}(hj:j<r.length):aK Xy (evC gl (call gl tab d) Ut (uC q p r j))=some (uC q p r (j+1)):=by
 have hp:=hk.ok.pn;have hr:=hk.ok.rn;have hL:(LO p).length<=p.length:=dp p 3 p.length;have hL1:(LS p).length<=p.length:=dp p 1 p.length;have hs:=Bd hq hp hr hj;have x1:=Be hj;obtain⟨f0,f1,t0,t1,ne⟩:=hk.ok.rf j hj;have hrj:r[j]? =some (rdt r j):=by unfold rdt;rw[wJ,wM hj];rfl
 have htk:r.take (j+1)=r.take j++[rdt r j]:=by rw[w9,hrj];rfl
 have e:A3 p r (j+1)=A3 p r j++[⟨3+2*(rdt r j).f.toNat,2+2*(rdt r j).t.toNat,(rdt r j).c,(rdt r j).k⟩]:=by unfold A3;rw[htk];unfold aR;rw[w5,<-wR];rfl
 have ea:=xL (A3 p r j) ⟨3+2*(rdt r j).f.toNat,2+2*(rdt r j).t.toNat,(rdt r j).c,(rdt r j).k⟩;have el:(A3 p r j).length=p.length+(LS p).length+(LO p).length+j:=by unfold A3 aS aO aR;rw[wH,wH,wH,cM,wO,wO,wO,wW];omega
 have l1:p.length+(LS p).length+(LO p).length+j+1<=LIM:=by unfold LIM;omega
 have n1:((3+2*(rdt r j).f.toNat:Nat):Int)=3+2*(rdt r j).f:=by omega
 have n2:((2+2*(rdt r j).t.toNat:Nat):Int)=2+2*(rdt r j).t:=by omega
 have tk:∀(u:List AV) (v:AV),(u++[v]).take (u.length+1)=u++[v]:=fun u v=>wP (by simp)
 have rl:=ak (A3 p r j);have h1:=nle el (by omega);have lla:(A3 p r j++[(⟨3+2*(rdt r j).f.toNat,2+2*(rdt r j).t.toNat,(rdt r j).c,(rdt r j).k⟩:Ar)]).length=p.length+(LS p).length+(LO p).length+j+1:=by rw[wH,el];rfl
 have h2:=nle lla (by omega);obtain⟨qb,qs,qc,qt⟩:=q;simp only at hs;subst hs;unfold uC;rw[e];simp only[n1,n2]at ea;unfold nC nL nH;rw[h1,h2,lla,ea,el];rw[el]at rl;generalize A3 p r j=a0 at *
 generalize rs a0=ul0 at *
 generalize (LO p).length=m1 at *
 generalize (LS p).length=m2 at *
 generalize rdt r j=x at *
 simp(disch:=apply zq;omega) only[go_sem,simprocAttr,↓wB,xx,Ut,aQ,x1,l1,tk,rl]
theorem yd (h:2<=n):call gl tab n 22 [plV q p r] []=some (nV (net p r) (aJ p r).isEmpty (if(aJ p r).isEmpty then .sc else yA4),[],[]):=by
 obtain⟨d,rfl⟩:=wC h;have hp:=hk.ok.pn;have hr:=hk.ok.rn;have hL:(LO p).length<=p.length:=dp p 3 p.length;have hL1:(LS p).length<=p.length:=dp p 1 p.length;have hsa:=fun i hi=>@Q3 gl (d+1) q p r hq hk i hi
 have hsb:=fun i hi=>@Mx gl (d+1) q p r hq hk i hi
 have hsc:=fun i hi=>@Mw gl (d+1) q p r hq hk i hi
 have hsd:=fun i hi=>@Mv gl (d+1) q p r hq hk i hi
 simp only[L19,Uv,Uu,Ut,wq]at hsa hsb hsc hsd;have c1:=@IU gl (d+1) (by omega) q p r hq hp 1;have c3:=@IU gl (d+1) (by omega) q p r hq hp 3;by_cases hp0:p.length=0
 . have hp0:=List.length_eq_zero_iff.1 hp0;subst hp0
   have hr0:r=[]:=by
    rcases r with _|⟨x,r⟩
    . rfl
    . have:=hk.ok.rf 0 (by simp);have h3:((([]:List Sp).length:Nat):Int)=0:=rfl;omega
   subst hr0;have e0:aJ [] []=[]:=rfl;have eS:LS []=[]:=rfl;have eO:LO []=[]:=rfl;have e1:A1 [] 0=[]:=rfl;have e2:A2 [] 0=[]:=rfl;have e3:A3 [] [] 0=[]:=rfl;have e4:aP [] 0=[]:=rfl;have el:List.length (α:=Sp) []=0:=rfl;have el2:List.length (α:=Rd) []=0:=rfl;have el3:ofK [] 1 0=[]:=rfl;have el4:ofK [] 3 0=[]:=rfl;rw[au (fd:=Kv) rfl];simp(disch:=apply zq;omega) only[go_sem,simprocAttr,↓wB,xx,Kv,m22,ah,el];rw[aE (S19 q [] []) 0 (by unfold LF;omega)]
   . simp(disch:=apply zq;omega) only[go_sem,simprocAttr,↓wB,xx,S19,H19,nC,nL,nH,ah,c1,el,e4,wK,wN,el3,wQ,aj];rw[aE (uE q [] []) 0 (by unfold LF;omega)]
     . simp(disch:=apply zq;omega) only[go_sem,simprocAttr,↓wB,xx,uE,H19,nC,nL,nH,c3,e1,wK,wN,eS,wQ,el,el4,aj];rw[aE (uD q [] []) 0 (by unfold LF;omega)]
       . simp(disch:=apply zq;omega) only[go_sem,simprocAttr,↓wB,xx,uD,H19,nC,nL,nH,aQ,e2,wK,wN,eO,wQ,el,el2];rw[aE (uC q [] []) 0 (by unfold LF;omega)]
         . simp(disch:=apply zq;omega) only[go_sem,simprocAttr,↓wB,xx,uC,aQ,nC,nL,nH,e3,wK,wN,el2,el];rfl
         . simp(disch:=apply zq;omega) only[go_sem,simprocAttr,↓wB,xx,uC,aQ,nC,nL,nH,e3,wK,wN,el2,el]
         . exact hsd
         . simp(disch:=apply zq;omega) only[go_sem,simprocAttr,↓wB,xx,uC,aQ,nC,nL,nH,e3,wK,wN,el2,el]
       . simp(disch:=apply zq;omega) only[go_sem,simprocAttr,↓wB,xx,uD,H19,nC,nL,nH,e2,wK,wN,eO,wQ,el]
       . exact hsc
       . simp(disch:=apply zq;omega) only[go_sem,simprocAttr,↓wB,xx,uD,H19,nC,nL,nH,e2,wK,wN,eO,wQ,el]
     . simp(disch:=apply zq;omega) only[go_sem,simprocAttr,↓wB,xx,uE,H19,nC,nL,nH,e1,wK,wN,eS,wQ,el,us,w2]
     . exact hsb
     . simp(disch:=apply zq;omega) only[go_sem,simprocAttr,↓wB,xx,uE,H19,nC,nL,nH,e1,wK,wN,eS,wQ,el]
   . simp(disch:=apply zq;omega) only[go_sem,simprocAttr,↓wB,xx,S19,H19,nC,nL,nH,ah,el,e4,wK,wN];rfl
   . exact hsa
   . simp(disch:=apply zq;omega) only[go_sem,simprocAttr,↓wB,xx,S19,H19,nC,nL,nH,ah,el,e4,wK,wN]
 have y0:=nle (cM p p.length) (by omega);have yl:=cM p p.length;have z1:A1 p 0=aP p p.length:=by unfold A1 aS;simp
 have z2:A2 p 0=A1 p (LS p).length:=by unfold A2 A1 aO;rw[w3];simp
 have z3:A3 p r 0=A2 p (LO p).length:=by unfold A3 A2 aR;rw[w3];simp
 have z4:A3 p r r.length=aJ p r:=by unfold A3 aJ;rw[w3]
 have l1:(A1 p (LS p).length).length=p.length+(LS p).length:=by unfold A1 aS;rw[wH,cM,wO,wW];omega
 have l2:(A2 p (LO p).length).length=p.length+(LS p).length+(LO p).length:=by unfold A2 aS aO;rw[wH,wH,cM,wO,wO,wW];omega
 have l3:(aJ p r).length=p.length+(LS p).length+(LO p).length+r.length:=bU p r;have y1:=nle l1 (by omega);have y2:=nle l2 (by omega);have y3:=nle l3 (by omega);have rl:=ak (aJ p r);have tk:(rs (aJ p r)).take (aJ p r).length=rs (aJ p r):=wP (by omega);have en:((net p r).n:Int)=2+2*(p.length:Int):=by show((2+2*p.length:Nat):Int)=_;omega
 have ea:(net p r).a=aJ p r:=rfl;rw[au (fd:=Kv) rfl];simp(disch:=apply zq;omega) only[go_sem,simprocAttr,↓wB,xx,Kv,m22,ah];rw[aE (S19 q p r) p.length (by unfold LF;omega)]
 . simp(disch:=apply zq;omega) only[go_sem,simprocAttr,↓wB,xx,S19,H19,nC,nL,nH,y0,yl,ah,c1];rw[aE (uE q p r) (LS p).length (by unfold LF;omega)]
   . simp(disch:=apply zq;omega) only[go_sem,simprocAttr,↓wB,xx,uE,H19,nC,nL,nH,y1,l1,c3];rw[aE (uD q p r) (LO p).length (by unfold LF;omega)]
     . simp(disch:=apply zq;omega) only[go_sem,simprocAttr,↓wB,xx,uD,H19,nC,nL,nH,y2,l2,aQ];rw[aE (uC q p r) r.length (by unfold LF;omega)]
       . simp(disch:=apply zq;omega) only[go_sem,simprocAttr,↓wB,xx,uC,nC,nL,nH,z4,y3,aQ,rl,tk,ea];unfold nV;rw[en,ea]
       . simp(disch:=apply zq;omega) only[go_sem,simprocAttr,↓wB,xx,uC,nC,nL,nH,z3,y2,l2,aQ]
       . exact hsd
       . simp(disch:=apply zq;omega) only[go_sem,simprocAttr,↓wB,xx,uC,nC,nL,nH,z4,y3,l3,aQ]
     . simp(disch:=apply zq;omega) only[go_sem,simprocAttr,↓wB,xx,uD,H19,nC,nL,nH,z2,y1,l1]
     . exact hsc
     . simp(disch:=apply zq;omega) only[go_sem,simprocAttr,↓wB,xx,uD,H19,nC,nL,nH,y2,l2]
   . simp(disch:=apply zq;omega) only[go_sem,simprocAttr,↓wB,xx,uE,H19,nC,nL,nH,z1,y0,yl]
   . exact hsb
   . simp(disch:=apply zq;omega) only[go_sem,simprocAttr,↓wB,xx,uE,H19,nC,nL,nH,y1,l1]
 . simp(disch:=apply zq;omega) only[go_sem,simprocAttr,↓wB,xx,S19,H19,aP,nC,nL,nH,wK,wN,ah]
 . exact hsa
 . simp(disch:=apply zq;omega) only[go_sem,simprocAttr,↓wB,xx,S19,H19,nC,nL,nH,y0,yl,ah]
end
theorem rj (p:List Sp)(i:Nat):∀l,dem p (l++[i])=dem p l+(spt p i).cp
 | []=>by simp[dem]
 | x::l=>by rw[wX,dem,dem,rj p i l];omega
theorem Dc (p:List Sp):∀i,dem p (ofK p 1 i)=dm p i
 | 0=>rfl
 | i+1=>by
   rw[ofK,dm];split
   . rw[rj,Dc p i]
   . exact Dc p i
noncomputable def L20:MC:=wq 0 m23
def S20 (q:PF)(p:List Sp)(r:List Rd)(j:Nat):St:=⟨[.set 9 (i64 (j:Int)),.set 8 (i64 ((LS p).length:Int)),.set 7 (.sl 7 [] 0 (LS p).length),.set 3 (i64 (dem p ((LS p).take j))),.set 1 (.ptr 1 [])],[(7,.grow .sc (us (LS p))),(1,.fix sPl (plV q p r))]⟩
section
variable {d :Nat} {q:PF} {p:List Sp} {r:List Rd} (hq:PFOk q p r) (hk:PK p r)
include hq hk
theorem PX :∀j,j<=(LS p).length->0<=dem p ((LS p).take j)/\dem p ((LS p).take j)<=(j:Int)*1073741824
 | 0,_=>by simp[dem]
 | j+1,hj=>by have ih:=PX j (by omega);obtain⟨i,hLi⟩:∃i,(LS p)[j]? =some i:=⟨_,wM hj⟩;have him:=(cZ.1 (wS hLi)).1;have:=hk.ok.cp i him;rw[tkS hLi,rj];omega
theorem Q2 {j:Nat}(hj:j<(LS p).length):aK K20 (evC gl (call gl tab d) L20 (S20 q p r j))=some (S20 q p r (j+1)):=by
 have hp:=hk.ok.pn;have hr:=hk.ok.rn;have hL:(LS p).length<=p.length:=dp p 1 p.length;have hb:=PX hq hk j (by omega);obtain⟨i,hLi⟩:∃i,(LS p)[j]? =some i:=⟨_,wM hj⟩;have him:=(cZ.1 (wS hLi)).1;have hc:=hk.ok.cp i him;have hs:=kS hq hp hr him;have x1:=da him;have x2:=dy hLi;have ul:=aj (LS p);have e:dem p ((LS p).take (j+1))=dem p ((LS p).take j)+(spt p i).cp:=by rw[tkS hLi,rj]
 obtain⟨qb,qs,qc,qt⟩:=q;simp only at hs;subst hs;unfold S20;rw[e];generalize dem p ((LS p).take j)=D at *
 generalize us (LS p)=u1 at *
 simp(disch:=apply zq;omega) only[go_sem,simprocAttr,↓wB,xx,L20,ah,x1,x2,ul]
theorem me (h:2<=n):call gl tab n 23 [plV q p r] []=some (i64 (dm p p.length),[],[]):=by
 obtain⟨d,rfl⟩:=wC h;have hp:=hk.ok.pn;have hr:=hk.ok.rn;have hL:(LS p).length<=p.length:=dp p 1 p.length;have hs:=fun i hi=>@Q2 gl (d+1) q p r hq hk i hi
 simp only[L20,wq]at hs;have c1:=@IU gl (d+1) (by omega) q p r hq hp 1;have e0:dem p ((LS p).take 0)=0:=rfl;have e1:dem p (LS p)=dm p p.length:=Dc p p.length;rw[au (fd:=TE) rfl];simp(disch:=apply zq;omega) only[go_sem,simprocAttr,↓wB,xx,TE,m23,ah,c1];rw[aE (S20 q p r) (LS p).length (by unfold LF;omega)]
 . simp(disch:=apply zq;omega) only[go_sem,simprocAttr,↓wB,xx,S20,e1]
 . simp(disch:=apply zq;omega) only[go_sem,simprocAttr,↓wB,xx,S20,e0];rfl
 . exact hs
 . simp(disch:=apply zq;omega) only[go_sem,simprocAttr,↓wB,xx,S20]
theorem gQ (hl:p.length<=49)(hr:r.length<=1500):GOk (net p r) where
 ok:=Cg hk.ok
 n:=by show 2+2*p.length<=100;omega
 a:=by show(aJ p r).length<=4000;have:=bU p r;have h1:=dp p 1 p.length;have h3:=dp p 3 p.length;omega
 c:=fun i hi=>by
  have hm:=j3 hi;have hc:=hk.ok.cp;have hrc:=hk.ok.rc;revert hm;generalize art (net p r).a i=a;intro hm;replace hm:a∈aJ p r:=hm;unfold aJ at hm;rw[wY,wY,wY]at hm;rcases hm with ((hm|hm)|hm)|hm
  . obtain⟨j,hj,rfl⟩:=zn hm;exact(hc j hj).2
  . obtain⟨j,hj,rfl⟩:=w0.1 hm;exact(hc j (cZ.1 hj).1).2
  . obtain⟨j,hj,rfl⟩:=w0.1 hm;exact(hc j (cZ.1 hj).1).2
  . obtain⟨y,hy,rfl⟩:=w0.1 hm;obtain⟨j,hj,rfl⟩:=qX hy;exact(hrc j hj).2.1
theorem Ef (hl:p.length<=6)(hr:r.length<=20)(h:60<=n):∃fl pr sent cut,SR (net p r) 0 1 (dm p p.length) fl pr sent cut/\call gl tab n 6 [plV q p r] []=some (.tup [fV (net p r) fl pr sent cut,i64 0],[],[]):=by
 obtain⟨d,rfl⟩:=wC h;have c17:=@vI gl (d+59) (by omega) q p r hq hk;have c19:=@yd gl (d+59) q p r hq hk (by omega);have c20:=@me gl (d+59) q p r hq hk (by omega);have hb:=GN hk.ok.cp p.length (wE _);have hln:=bU p r;have h1:=dp p 1 p.length;have h3:=dp p 3 p.length;obtain⟨fl,pr,sent,cut,hs,c18⟩:=@MS gl (d+59) (net p r) (aJ p r).isEmpty (if(aJ p r).isEmpty then .sc else yA4) 0 1 (dm p p.length) (gQ hq hk (by omega) (by omega))
  (by
    by_cases e:(aJ p r)=[]
    . exact .inl e
    . rw[wZ.2 e];exact .inr rfl)
  (fun e=>by
    have e:aJ p r=[]:=e;rw[e]at hln;have:p.length=0:=by simp at hln;omega
    rw[this];rfl)
  (by show 0<2+2*p.length;omega) (by show 1<2+2*p.length;omega) (by omega) (by omega) (by show(aJ p r).length<=2048;omega) (by show 3*(2+2*p.length)+13<=d+59;omega)
 refine⟨fl,pr,sent,cut,hs,?_⟩;rw[au (fd:=fd6) rfl];have n0:((0:Nat):Int)=0:=rfl;have n1:((1:Nat):Int)=1:=rfl;rw[n0,n1]at c18;obtain⟨b,hb⟩:∃b,lV .sc (us cut)= .lst b .sc (us cut):=by
  unfold lV
  cases h:(us cut).isEmpty with
  | true=>rw[w8]at h;exact⟨true,by rw[h];rfl⟩
  | false=>exact⟨false,rfl⟩
 unfold fV at c18 ⊢;rw[hb]at c18 ⊢;simp(disch:=apply zq;omega) only[go_sem,simprocAttr,↓wB,xx,fd6,m6,c17,c19,c20,c18]
end
abbrev alV (a:Al):AV:=.agg [i64 a.g,i64 a.o,i64 a.n]
def als (l:List Al):List AV:=l.map alV
theorem fe (l:List Al):(als l).length=l.length:=by simp[als]
theorem Ds {l:List Al}{i:Nat}(h:i<l.length):(als l)[i]? =some (.agg [i64 (alt l i).g,i64 (alt l i).o,i64 (alt l i).n]):=by simp[als,alt,h]
theorem OU (l:List Al)(a:Al):als (l++[a])=als l++[.agg [i64 a.g,i64 a.o,i64 a.n]]:=by simp[als]
section
variable {d :Nat} {b:Bool} {sh:Sh} {l:List Al} (hsh:l=[]\/sh=yA3) (hl:l.length<=100000) (x:Al)
include hsh hl
end
structure AF where
 f:Bool
 s:Sh
 g:Bool
 t:Sh
section
variable {d :Nat} {w:AF} {a b:List Al} (ha:a=[]\/w.s=yA3) (hb:b=[]\/w.t=yA3) (hal:a.length<=100000) (hbl:b.length<=100000)
include ha hb hal hbl
end
def esA :Nat->List Al->List (AV×AV×Nat)
 | _,[]=>[]
 | k,a::l=>(.agg [i64 a.g,i64 a.o],i64 (k:Int),k)::esA (k+1) l
theorem A4 (g o:Int):∀(k:Nat) (l:List Al),bQ (.agg [i64 g,i64 o]) (esA k l)=some ((fnd l g o).map fun j=>(j,i64 ((k+j:Nat):Int)))
 | k,[]=>rfl
 | k,a::l=>by
   rw[esA,bQ,A4 g o (k+1) l,tI];have hs:sm g o a=((g==a.g)&&((o==a.o)&&true)):=by
    unfold sm;have h1:∀a b:Int,decide (a=b)=(b==a):=fun a b=>by
     by_cases e:a=b
     . subst e;simp
     . rw[decide_eq_false e,beq_eq_false_iff_ne.2 (Ne.symm e)]
    rw[h1,h1,Bool.and_true]
   have hk:gD (.agg [i64 g,i64 o]) (.agg [i64 a.g,i64 a.o])=some (sm g o a):=by rw[hs];rfl
   rw[hk,Option.bind_some]
   cases sm g o a with
   | true=>rfl
   | false =>
     simp only[Bool.false_eq_true,if_false,Option.map_some,Option.map_map,Option.some.injEq]
     congr 1
     funext j;simp only[Function.comp];rw[show k+1+j=k+(j+1) by omega]
theorem ED (a:Al):∀(k:Nat) (l:List Al),esA k (l++[a])=esA k l++[(.agg [i64 a.g,i64 a.o],i64 ((k+l.length:Nat):Int),k+l.length)]
 | k,[]=>rfl
 | k,x::l=>by rw[wX,esA,ED a (k+1) l,esA,wX,List.length_cons,show k+1+l.length=k+(l.length+1) by omega]
theorem EC {a:Al}:∀{k:Nat} {l:List Al} {j:Nat},j<l.length->(alt l j).g=a.g->(alt l j).o=a.o->esA k (l.set j a)=esA k l
 | k,[],j,h,_,_=>by simp at h
 | k,x::l,0,h,h1,h2=>by have h1:x.g=a.g:=h1;have h2:x.o=a.o:=h2;rw[List.set_cons_zero,esA,esA,h1,h2]
 | k,x::l,j+1,h,h1,h2=>by have:=EC (k:=k+1) (l:=l) (j:=j) (by simpa using h) h1 h2;rw[List.set_cons_succ,esA,esA,this]
theorem OT (l:List Al)(j:Nat)(a:Al):als (l.set j a)=(als l).set j (.agg [i64 a.g,i64 a.o,i64 a.n]):=by simp[als]
theorem Fg {l:List Al}{g o v:Int}{j:Nat}(h:fnd l g o=some j):iE l g o v=l.set j ⟨g,o,(alt l j).n+v⟩:=by unfold iE;rw[h]
theorem Fh {l:List Al}{g o v:Int}(h:fnd l g o=none):iE l g o v=l++[⟨g,o,v⟩]:=by unfold iE;rw[h]
theorem oU (p:List Sp)(r:List Rd)(x:List Int):∀i,(alo p r x i).length<=i
 | 0=>wE _
 | i+1=>by
   have:=oU p r x i;rw[alo];split
   . unfold iE;split
     . rw[wT];omega
     . rw[wH,wU];omega
   . omega
theorem UU {l:List Al}{g o v B:Int}(h:∀a∈l,0<=a.n/\a.n<=B)(hB:0<=B)(hv:0<=v/\v<=1073741824):∀a∈iE l g o v,0<=a.n/\a.n<=B+1073741824:=by
 intro a ha;unfold iE at ha;split at ha
 . rename_i j hj;obtain⟨m,hm,rfl⟩:=w6 ha;rw[List.getElem_set];rw[wT]at hm;split
   . have:=h _ (zi (AY hj).1);simp only;omega
   . have:=h _ (List.getElem_mem hm);omega
 . rw[wY,w7]at ha;rcases ha with ha|rfl
   . have:=h _ ha;omega
   . simp only;omega
theorem P7 {p:List Sp}{r:List Rd}{x:List Int}(hx:∀i,0<=nth x i/\nth x i<=1073741824):∀i,∀a∈alo p r x i,0<=a.n/\a.n<=(i:Int)*1073741824
 | 0=>fun a ha=>by simp[alo]at ha
 | i+1=>by
   have ih:=P7 (p:=p) (r:=r) hx i;rw[alo];split
   . intro a ha;have:=UU ih (by omega) (hx i) a ha;omega
   . intro a ha;have:=ih a ha;omega
noncomputable def L7:MC:=wq 0 m24
def S7L (q:PF)(p:List Sp)(r:List Rd)(fb:Bool)(x:List Int)(i:Nat)(l:List Al):St:=⟨[.set 28 (i64 (i:Int)),.set 27 (i64 (r.length:Int)),.set 26 (.lst q.c q.t (ds r)),.set 7 (.lst fb .sc (ns x)),.set 6 (.mp 14),.set 5 (.sl 5005 [] 0 l.length),.set 2 (.ptr 2 [])],[(14,.mp (esA 0 l) l.length),(2,.fix sPl (plV q p r)),(5005,.grow yA3 (als l))]⟩
def S7 (q:PF)(p:List Sp)(r:List Rd)(fb:Bool)(x:List Int)(i:Nat):St:=S7L q p r fb x i (alo p r x i)
section
variable {d :Nat} {q:PF} {p:List Sp} {r:List Rd} (hq:PFOk q p r) (hk:PK p r) {fb:Bool} {x:List Int} (hx:∀i,0<=nth x i/\nth x i<=1073741824) (hxl:x.length=r.length)
include hq hk hx hxl
set_option maxHeartbeats 1000000 in
theorem UF {i:Nat}(hi:i<r.length):aK K7 (evC gl (call gl tab d) L7 (S7 q p r fb x i))=some (S7 q p r fb x (i+1)):=by
 have hp:=hk.ok.pn;have hr:=hk.ok.rn;have hs:=Bd hq hp hr hi;have x1:=Be hi;obtain⟨f0,f1,t0,t1,ne⟩:=hk.ok.rf i hi;have hxi:=hx i;have x4:=bc (show i<x.length by omega);have hab:=P7 (p:=p) (r:=r) hx i;have hal:=oU p r x i;have hal':(alo p r x (i+1)).length<=i+1:=oU p r x (i+1);have e:alo p r x (i+1)=if(spt p (rdt r i).f.toNat).kd=2/\(spt p (rdt r i).t.toNat).kd=3 then iE (alo p r x i) (spt p (rdt r i).f.toNat).nu (spt p (rdt r i).t.toNat).nu (nth x i)else alo p r x i:=rfl;unfold S7;rw[e];clear e hal';generalize alo p r x i=A at *
 generalize nth x i=xi at *
 generalize rdt r i=y at *
 obtain⟨xf,xt,xc,xk⟩:=y;simp only at *
 obtain⟨j,rfl⟩:=Int.eq_ofNat_of_zero_le f0;obtain⟨k,rfl⟩:=Int.eq_ofNat_of_zero_le t0;have hs2:=kS hq hp hr (show j<p.length by omega);have x2:=da (show j<p.length by omega);have x3:=da (show k<p.length by omega);simp only[Int.toNat_natCast];obtain⟨qb,qs,qc,qt⟩:=q;simp only at hs hs2;subst hs hs2;have al:=fe A;have l1:A.length+1<=LIM:=by unfold LIM;omega
 have tk:∀(u:List AV) (v:AV),(u++[v]).take (u.length+1)=u++[v]:=fun u v=>wP (by simp)
 by_cases k1:(spt p j).kd=2
 case neg =>
  have b1:((spt p j).kd != 2)=true:=by simpa using k1
  rw[if_neg fun h=>k1 h.1];unfold S7L;simp(disch:=apply zq;omega) only[go_sem,simprocAttr,↓wB,xx,L7,ah,aQ,x1,x2,x3,x4,b1]
 by_cases k2:(spt p k).kd=3
 case neg =>
  have b1:((spt p j).kd != 2)=false:=by simp[k1]
  have b2:((spt p k).kd != 3)=true:=by simpa using k2
  rw[if_neg fun h=>k2 h.2];unfold S7L;simp(disch:=apply zq;omega) only[go_sem,simprocAttr,↓wB,xx,L7,ah,aQ,x1,x2,x3,x4,b1,b2]
 have b1:((spt p j).kd != 2)=false:=by simp[k1]
 have b2:((spt p k).kd != 3)=false:=by simp[k2]
 rw[if_pos ⟨k1,k2⟩];generalize (spt p j).nu=g0 at *
 generalize (spt p k).nu=o0 at *
 have hf:=A4 g0 o0 0 A
 cases hfn:fnd A g0 o0 with
 | some m =>obtain⟨hm,hsm⟩:=AY hfn;obtain⟨g1,o1⟩:=hZ.1 hsm;have hmb:=hab _ (zi hm);rw[Fg hfn];rw[hfn]at hf;simp only[Option.map_some,wG]at hf;have e1:=@EC ⟨g0,o0,(alt A m).n+xi⟩ 0 A m hm g1 o1;have e2:=OT A m ⟨g0,o0,(alt A m).n+xi⟩;have x5:=Ds hm;rw[g1,o1]at x5;unfold S7L;rw[e1,e2,wT];simp(disch:=apply zq;omega) only[go_sem,simprocAttr,↓wB,xx,L7,ah,aQ,x1,x2,x3,x4,b1,b2,hf,fe,x5,ae,hxl,g1,o1,wT]
 | none =>
   rw[Fh hfn];rw[hfn]at hf;simp only[Option.map_none]at hf;have e1:=ED ⟨g0,o0,xi⟩ 0 A;have e2:=OU A ⟨g0,o0,xi⟩;simp only[wG]at e1;unfold S7L;have at1:∀v,(als A++[v])[A.length]? =some v:=fun v=>by rw[<-al];simp
   have st1:∀v w,(als A++[v]).set A.length w=als A++[w]:=fun v w=>by rw[<-al];simp
   rw[e1,e2,wH,wU];simp(disch:=apply zq;omega) only[go_sem,simprocAttr,↓wB,xx,L7,ah,aQ,x1,x2,x3,x4,b1,b2,hf,fe,l1,tk,at1,st1,ae,hxl,Int.zero_add]
end
structure Fq where
 s:Int
 c:Int
 b1:Bool
 b2:Bool
 b3:Bool
 pr:List Int
 cut:List Nat
abbrev fqV (w:Fq)(fl:List Int):AV:=.agg [i64 w.s,i64 w.c,.lst w.b1 .sc (ns fl),.lst w.b2 .sc (ns w.pr),.lst w.b3 .sc (us w.cut)]
theorem GX (h:1<=n){q:PF}{p:List Sp}{r:List Rd}(hq:PFOk q p r)(hk:PK p r){w:Fq}{fl:List Int}(hl:fl.length=(aJ p r).length)(hx:∀i,0<=nth (rds p r fl) i/\nth (rds p r fl) i<=1073741824) :
  call gl tab n 24 [plV q p r,fqV w fl] []=some (.sl 20000 [] 0 (alo p r (rds p r fl) r.length).length,[],[.grow yA3 (als (alo p r (rds p r fl) r.length))]):=by
 obtain⟨d,rfl⟩:=wC h;have hxl:=D3 hl;have hrn:=hk.ok.rn;have hpn:=hk.ok.pn;have h1:=dp p 1 p.length;have h3:=dp p 3 p.length;have hln:=bU p r;have hs:=fun i (hi:i<r.length)=>@UF gl d q p r hq hk w.b1 (rds p r fl) hx hxl i hi
 simp only[L7,wq]at hs;have al:=fe (alo p r (rds p r fl) r.length);have e1:(fl.length:Int)-(r.length:Int)=((fl.length-r.length:Nat):Int):=by omega
 have e2:List.drop (fl.length-r.length) (List.take fl.length (ns fl))=ns (rds p r fl):=by unfold rds;rw[wP (by rw[ae];exact wE _)];rw[show fl.length-r.length=p.length+(ofK p 1 p.length).length+(ofK p 3 p.length).length by omega];simp[ns]
 rw[au (fd:=TD) rfl];simp(disch:=apply zq;omega) only[go_sem,simprocAttr,↓wB,xx,TD,m24,ae,aQ,e1,e2];rw[aE (S7 q p r w.b1 (rds p r fl)) r.length (by unfold LF;omega)]
 . simp(disch:=apply zq;omega) only[go_sem,simprocAttr,↓wB,xx,S7,S7L,al]
 . simp(disch:=apply zq;omega) only[go_sem,simprocAttr,↓wB,xx,S7,S7L,alo,als,esA,w2,wQ]
 . exact hs
 . simp(disch:=apply zq;omega) only[go_sem,simprocAttr,↓wB,xx,S7,S7L]
structure SF (p:List Sp)(r:List Rd)(fl:List Int):Prop where
 fb:FB (net p r) fl
 z:∀v,v≠0->v≠1->giv (aJ p r) fl v (aJ p r).length=0
 x:∀i,0<=nth (rds p r fl) i/\nth (rds p r fl) i<=1073741824
theorem UH {q:PF}{p:List Sp}{r:List Rd}(hq:PFOk q p r)(hk:PK p r)(hp:p.length<=6)(hr:r.length<=20){A:Int}{fl pr:List Int}{sent:Int}{cut:List Nat}(h:SR (net p r) 0 1 A fl pr sent cut):SF p r fl where
 fb:=h.si.fb
 z:=fun v h0 h1=>by have:=h.si.gv v;rw[if_neg h0,if_neg h1]at this;exact this
 x:=fun i=>by
  have hg:=gQ hq hk (by omega) (by omega);have e:nth (rds p r fl) i=nth fl (p.length+(ofK p 1 p.length).length+(ofK p 3 p.length).length+i):=by unfold rds nth;rw[wJ,wJ,List.getElem?_drop]
  rw[e];generalize p.length+(ofK p 1 p.length).length+(ofK p 3 p.length).length+i=j;by_cases hj:j<(net p r).a.length
  . have h1:=h.si.fb.b j hj;have h2:=hg.c j hj;omega
  . have:nth fl j=0:=by
     unfold nth;rw[wJ,w1 (by rw[h.si.fb.l];omega)];rfl
    omega
theorem PN (g:Nt)(fl pr:List Int)(sent:Int)(cut:List Nat):∃w:Fq,fV g fl pr sent cut=fqV w fl/\w.s=sent/\w.c=tot g.a fl g.a.length/\w.pr=pr/\w.cut=cut:=by
 cases h:(us cut).isEmpty with
 | true=>exact⟨⟨sent,tot g.a fl g.a.length,false,false,true,pr,cut⟩,by unfold fV lV fqV;rw[h];rw[w8]at h;rw[h];rfl,rfl,rfl,rfl,rfl⟩
 | false=>exact⟨⟨sent,tot g.a fl g.a.length,false,false,false,pr,cut⟩,by unfold fV lV fqV;rw[h];rfl,rfl,rfl,rfl,rfl⟩
end Go.Proofs.S51
namespace Go.Fl
theorem Rx {g:Nt}{K:Int}(hg:NOk g K){fl pr:List Int}(h:RN g fl pr){i:Nat}(hi:i<g.a.length) :
  (nth fl i<(art g.a i).c->0<=(art g.a i).k+nth pr (art g.a i).f-nth pr (art g.a i).t)/\(0<nth fl i->(art g.a i).k+nth pr (art g.a i).f-nth pr (art g.a i).t<=0):=by
 have hne:=hg.ne i hi;refine⟨fun h1=> ?_,fun h1=> ?_⟩
 . have:=h (art g.a i).f i ⟨hi,.inl rfl⟩ (by unfold room;rw[if_pos rfl];omega);unfold red cst oth at this;rw[if_pos rfl,if_pos rfl]at this;exact this
 . have:=h (art g.a i).t i ⟨hi,.inr rfl⟩ (by unfold room;rw[if_neg hne];omega);unfold red cst oth at this;rw[if_neg hne,if_neg hne]at this;omega
theorem Lg {g:Nt}{K:Int}(hg:NOk g K)(hK:0<=K)(hB:(g.n:Int)*K+K<far){fl pr out:List Int}{s to:Nat}(hs:s<g.n)(hpb:PB g K pr s to)(hfb:FB g fl)(h:DI g fl pr s out []){i:Nat}(hi:i<g.a.length) :
  (nth out (art g.a i).f<far->¬nth out (art g.a i).t<far->nth fl i=(art g.a i).c)/\(¬nth out (art g.a i).f<far->nth out (art g.a i).t<far->nth fl i=0):=by
 have hne:=hg.ne i hi;have hf:=hg.f i hi;have ht:=hg.t i hi;have hb:=hfb.b i hi;have step:∀v,v<g.n->nth out v<far->∀i,inc g v i->0<room g fl v i->nth out (oth g v i)<far:=by
  intro v hv hl i hi hr;have hk:=hg.k i hi.1;rcases h.r v hv hl with hm|hm
  . exact absurd hm (by simp)
  . have h1:=hm i hi hr;rcases h.p v hv with h2|⟨P,h2⟩
    . omega
    . have h3:=h2.bd hg hK hs hpb;have ho:=jI hg hi;have h4:=hpb.b _ ho;have h5:cst g v i<=K:=by unfold cst;split<;>omega
      unfold red at h1;omega
 refine⟨fun h1 h2=> ?_,fun h1 h2=> ?_⟩
 . by_cases e:nth fl i<(art g.a i).c
   . have:=step _ hf h1 i ⟨hi,.inl rfl⟩ (by unfold room;rw[if_pos rfl];omega);unfold oth at this;rw[if_pos rfl]at this;exact absurd this h2
   . omega
 . by_cases e:0<nth fl i
   . have:=step _ ht h2 i ⟨hi,.inr rfl⟩ (by unfold room;rw[if_neg hne];omega);unfold oth at this;rw[if_neg hne]at this;exact absurd this h1
   . omega
def sN (F:Nat->Int):Nat->Int
 | 0=>0
 | n+1=>sN F n+F n
theorem kI (F G:Nat->Int):∀n,sN (fun v=>F v+G v) n=sN F n+sN G n
 | 0=>rfl
 | n+1=>by simp only[sN];rw[kI F G n];omega
theorem dA {F G:Nat->Int}:∀{n:Nat},(∀v,v<n->F v=G v)->sN F n=sN G n
 | 0,_=>rfl
 | n+1,h=>by simp only[sN];rw[dA fun v hv=>h v (by omega),h n (by omega)]
theorem uM :∀n,sN (fun _=>0) n=0
 | 0=>rfl
 | n+1=>by simp only[sN];rw[uM n];rfl
theorem rS (P:Nat->Bool)(k:Nat)(x:Int):∀n,sN (fun v=>if P v=true then(if k=v then x else 0)else 0) n=if k<n/\P k=true then x else 0
 | 0=>by simp[sN]
 | n+1=>by
   simp only[sN];rw[rS P k x n];by_cases e:k=n
   . subst e;cases P k<;>simp
   . by_cases h:k<n
     . have h':k<n+1:=by omega
       cases P k<;>cases P n<;>simp[e,h,h']
     . have h':¬k<n+1:=by omega
       cases P k<;>cases P n<;>simp[e,h,h']
def crs (P:Nat->Bool)(a:List Ar)(fl:List Int):Nat->Int
 | 0=>0
 | i+1=>crs P a fl i+(if P (art a i).f=true then nth fl i else 0)-(if P (art a i).t=true then nth fl i else 0)
theorem yW (P:Nat->Bool){a:List Ar}{fl:List Int}{n:Nat}:∀{m:Nat},(∀i,i<m->(art a i).f<n/\(art a i).t<n)->sN (fun v=>if P v=true then giv a fl v m else 0) n=crs P a fl m
 | 0,_=>by refine Eq.trans (dA (G:=fun _=>0) fun v _=> ?_) (uM n);simp only[giv];split<;>rfl
 | m+1,h=>by
   have ih:=yW P (a:=a) (fl:=fl) (n:=n) (m:=m) fun i hi=>h i (by omega)
   obtain⟨h1,h2⟩:=h m (by omega);have e1:=rS P (art a m).f (nth fl m) n;have e2:=rS P (art a m).t (-nth fl m) n;rw[crs,<-ih];have e:sN (fun v=>if P v=true then giv a fl v (m+1)else 0) n=sN (fun v=>(if P v=true then giv a fl v m else 0)+((if P v=true then(if(art a m).f=v then nth fl m else 0)else 0)+(if P v=true then(if(art a m).t=v then -nth fl m else 0)else 0))) n:=dA fun v _=>by
    simp only[giv];by_cases hp:P v=true
    . simp only[if_pos hp];by_cases x1:(art a m).f=v<;>by_cases x2:(art a m).t=v<;>simp only[x1,x2,if_true,if_false]<;>omega
    . simp only[if_neg hp];rfl
   rw[e,kI,kI,e1,e2];by_cases x1:P (art a m).f=true<;>by_cases x2:P (art a m).t=true<;>simp only[x1,x2,h1,h2,and_true,and_false,if_true,if_false,Bool.false_eq_true]<;>omega
def bnd (P:Nat->Bool)(a:List Ar):Nat->Int
 | 0=>0
 | i+1=>bnd P a i+if P (art a i).f=true/\P (art a i).t=false then(art a i).c else 0
theorem EJ {P:Nat->Bool}{a:List Ar}{fl:List Int}:∀{m:Nat},(∀i,i<m->(P (art a i).f=true->P (art a i).t=false->nth fl i=(art a i).c)/\(P (art a i).f=false->P (art a i).t=true->nth fl i=0))->crs P a fl m=bnd P a m
 | 0,_=>rfl
 | m+1,h=>by
   have ih:=EJ (m:=m) fun i hi=>h i (by omega)
   obtain⟨h1,h2⟩:=h m (by omega);rw[crs,bnd,ih];cases x1:P (art a m).f<;>cases x2:P (art a m).t
   . simp
   . have:=h2 x1 x2;simp[this]
   . have:=h1 x1 x2;simp[this]
   . simp
     try omega
theorem Rs {P:Nat->Bool}{F:Nat->Int}{s to:Nat}{sent:Int}(hs:P s=true)(ht:P to=false)(hF:∀v,F v=(if v=s then sent else 0)-(if v=to then sent else 0)):∀n,s<n->sN (fun v=>if P v=true then F v else 0) n=sent:=by
 intro n hn;have e:sN (fun v=>if P v=true then F v else 0) n=sN (fun v=>if P v=true then(if s=v then sent else 0)else 0) n:=dA fun v _=>by
  by_cases hp:P v=true
  . rw[if_pos hp,if_pos hp,hF];have:v≠to:=fun e=>by rw[e,ht]at hp;cases hp
    rw[if_neg this];by_cases e:v=s
    . rw[if_pos e,if_pos e.symm];omega
    . rw[if_neg e,if_neg (Ne.symm e)];omega
  . rw[if_neg hp,if_neg hp]
 rw[e,rS,if_pos ⟨hn,hs⟩]
theorem Oy {g:Nt}{K:Int}(hg:NOk g K)(hK:0<=K)(hB:(g.n:Int)*K+K<far){fl pr out:List Int}{s to:Nat}{A sent:Int}(hs:s<g.n)(h:SI g K s to A fl pr sent)(hd:DI g fl pr s out [])(ht:nth out to=far) :
  bnd (fun v=>decide (nth out v<far)) g.a g.a.length=sent:=by
 have h0:nth out s<far:=by rw[hd.sz];unfold far;decide
 rw[<-EJ (fl:=fl) fun i hi=>by
  have:=Lg hg hK hB hs h.pb h.fb hd hi;simp only[decide_eq_true_eq,decide_eq_false_iff_not];exact this]
 rw[<-yW _ (n:=g.n) fun i hi=>⟨hg.f i hi,hg.t i hi⟩];exact Rs (s:=s) (to:=to) (by simpa using h0) (by simp[ht]) h.gv g.n hs
theorem EI {g:Nt}{K:Int}(hg:NOk g K)(hK:0<=K)(hB:(g.n:Int)*K+K<far){fl pr out:List Int}{s to:Nat}(hs:s<g.n)(hpb:PB g K pr s to)(h:DI g fl pr s out []){v i:Nat}(hv:v<g.n)(hl:nth out v<far)(hi:inc g v i)(hr:0<room g fl v i):nth out (oth g v i)<far:=by
 have hk:=hg.k i hi.1;rcases h.r v hv hl with hm|hm
 . exact absurd hm (by simp)
 . have h1:=hm i hi hr;rcases h.p v hv with h2|⟨P,h2⟩
   . omega
   . have h3:=h2.bd hg hK hs hpb;have ho:=jI hg hi;have h4:=hpb.b _ ho;have h5:cst g v i<=K:=by unfold cst;split<;>omega
     unfold red at h1;omega
theorem BB {a b:List Ar}{i:Nat}(h:i<a.length):art (a++b) i=art a i:=by unfold art;rw[wJ,wJ,List.getElem?_append_left h]
theorem mh {a b:List Ar}{i:Nat}(h:a.length<=i):art (a++b) i=art b (i-a.length):=by unfold art;rw[wJ,wJ,List.getElem?_append_right h]
theorem zg {α:Type}{f:α->Ar}{l:List α}{k:Nat}{x:α}(h:l[k]? =some x):art (l.map f) k=f x:=by unfold art;rw[wJ,List.getElem?_map,h];rfl
theorem lW (p:List Sp)(kd:Int):∀n,(ofK p kd n).Nodup
 | 0=>by simp[ofK]
 | n+1=>by
   rw[ofK];split
   . rw[List.nodup_append];refine⟨lW p kd n,by simp,fun x hx y hy=> ?_⟩;rw[w7]at hy;have:=(cZ.1 hx).1;omega
   . exact lW p kd n
theorem jt {p:List Sp}{r:List Rd}{k i:Nat}(h:(ofK p 1 p.length)[k]? =some i):art (aJ p r) (p.length+k)=⟨0,2+2*i,(spt p i).cp,0⟩:=by
 have hk:k<(ofK p 1 p.length).length:=by
  rcases wD k (ofK p 1 p.length).length with h1|h1
  . exact h1
  . rw[w1 h1]at h;cases h
 unfold aJ;rw[wR,wR,mh (by rw[cM];omega),cM,Nat.add_sub_cancel_left,BB (by unfold aS;rw[wO];exact hk)];unfold aS;rw[zg h]
theorem DU {p:List Sp}{r:List Rd}(h:POk p r){fl:List Int}(hl:fl.length=(aJ p r).length){i k:Nat}(hi:i<p.length)(hk:(ofK p 1 p.length)[k]? =some i)(hz:giv (aJ p r) fl (2+2*i) (aJ p r).length=0) :
  nth fl (p.length+k)=nth fl i:=by
 have hlen:=bU p r;have hkl:k<(ofK p 1 p.length).length:=by
  rcases wD k (ofK p 1 p.length).length with h1|h1
  . exact h1
  . rw[w1 h1]at hk;cases hk
 have hkd:=(cZ.1 (wS hk)).2;rw[Es _ hl.symm]at hz;have rest:∀j,p.length+(ofK p 1 p.length).length<=j->j<(aJ p r).length->(art (aJ p r) j).f≠2+2*i/\(art (aJ p r) j).t≠2+2*i:=fun j h1 h2=>by
  have e:art (aJ p r) j=art (aO p (ofK p 3 p.length)++aR r) (j-(p.length+(ofK p 1 p.length).length)):=by unfold aJ;rw[wR,mh (by rw[wH,cM];unfold aS;rw[wO];exact h1),wH,cM];unfold aS;rw[wO]
  have hm:=j3 (l:=aO p (ofK p 3 p.length)++aR r) (i:=j-(p.length+(ofK p 1 p.length).length)) (by
   rw[wH];unfold aO aR;rw[wO,wO];omega)
  rw[<-e,wY]at hm;generalize art (aJ p r) j=w at *
  rcases hm with hm|hm
  . unfold aO at hm;obtain⟨x,_,rfl⟩:=w0.1 hm;simp only;omega
  . unfold aR at hm;obtain⟨y,hy,rfl⟩:=w0.1 hm;obtain⟨m,hml,rfl⟩:=qX hy;have h3:=h.rf m hml;have h4:=(h.rk m hml).2;simp only;refine⟨by omega,fun e=> ?_⟩;have:(rdt r m).t.toNat=i:=by omega
    rw[this,hkd]at h4;exact h4 rfl
 have a1:sIf (fun x=>decide (x.f=2+2*i)) (aJ p r) fl=nth fl i:=by
  refine qT hl.symm (by omega) ?_ fun j hj hne=> ?_
  . rw[lL hi];simp
  . simp only[decide_eq_false_iff_not];rcases wD j p.length with h1|h1
    . rw[lL h1];simp only;omega
    rcases wD j (p.length+(ofK p 1 p.length).length)with h2|h2
    . obtain⟨m,rfl⟩:=wF h1;rw[jt (wM (show m<(ofK p 1 p.length).length by omega))];simp only;omega
    . exact(rest j h2 hj).1
 have a2:sIf (fun x=>decide (x.t=2+2*i)) (aJ p r) fl=nth fl (p.length+k):=by
  refine qT hl.symm (by omega) ?_ fun j hj hne=> ?_
  . rw[jt hk];simp
  . simp only[decide_eq_false_iff_not];rcases wD j p.length with h1|h1
    . rw[lL h1];simp only;omega
    rcases wD j (p.length+(ofK p 1 p.length).length)with h2|h2
    . obtain⟨m,rfl⟩:=wF h1;have hm:m<(ofK p 1 p.length).length:=by omega
      rw[jt (wM hm)];simp only;intro e;have e':(ofK p 1 p.length)[m]=i:=by omega
      have e2:(ofK p 1 p.length)[k]=i:=by rw[wM hkl]at hk;exact Option.some.inj hk
      have hn:=List.pairwise_iff_getElem.1 (lW p 1 p.length);rcases Nat.lt_trichotomy m k with h5|h5|h5
      . exact hn m k hm hkl h5 (by rw[e',e2])
      . omega
      . exact hn k m hkl hm h5 (by rw[e',e2])
    . exact(rest j h2 hj).2
 omega
theorem xI {p:List Sp}{r:List Rd}(h:POk p r){K:Int}(hg:NOk (net p r) K)(hK:0<=K)(hB:((net p r).n:Int)*K+K<far){fl pr out:List Int}{A sent:Int}(hs:SI (net p r) K 0 1 A fl pr sent)(hd:DI (net p r) fl pr 0 out [])
  {i:Nat} (hi:i<p.length) (hk:(spt p i).kd=1) (hlt:nth fl i<(spt p i).cp):nth out (2+2*i)<far:=by
 obtain⟨k,hkl,hke⟩:=w6 (cZ.2 ⟨hi,hk⟩:i∈ofK p 1 p.length);have hk':(ofK p 1 p.length)[k]? =some i:=by rw[wM hkl,hke]
 have hlen:=bU p r;have hz:=hs.gv (2+2*i);rw[if_neg (by omega),if_neg (by omega)]at hz;have e:=DU h hs.fb.l hi hk' (by rw[show(aJ p r)=(net p r).a from rfl,hz];rfl);have ha:=jt (r:=r) hk';have hin:inc (net p r) 0 (p.length+k):=⟨by show p.length+k<(aJ p r).length;omega,.inl (by show(art (aJ p r) _).f=0;rw[ha])⟩;have h0:(0:Nat)<(net p r).n:=by show 0<2+2*p.length;omega
 have:=EI hg hK hB h0 hs.pb hd h0 (by rw[hd.sz];unfold far;decide) hin (by
  unfold room;rw[if_pos (by show(art (aJ p r) _).f=0;rw[ha])];show 0<(art (aJ p r) _).c-_;rw[ha,e];simp only;omega)
 unfold oth at this;rw[if_pos (by show(art (aJ p r) _).f=0;rw[ha])]at this;have e3:(art (net p r).a (p.length+k)).t=2+2*i:=by show(art (aJ p r) _).t=_;rw[ha]
 rwa [e3]at this
def lew (fl:List Int):List Nat->Int->Int
 | [],m=>m
 | i::w,m=>lew fl w (mi m (nth fl i))
def sbw (m:Int):List Nat->List Int->List Int
 | [],fl=>fl
 | i::w,fl=>sbw m w (fl.set i (nth fl i-m))
theorem AB (fl:List Int)(x:Nat):∀(w:List Nat) (m:Int),lew fl (w++[x]) m=mi (lew fl w m) (nth fl x)
 | [],m=>rfl
 | i::w,m=>by rw[wX,lew,AB fl x w];rfl
theorem zS (m:Int)(x:Nat):∀(w:List Nat) (fl:List Int),sbw m (w++[x]) fl=(sbw m w fl).set x (nth (sbw m w fl) x-m)
 | [],fl=>rfl
 | i::w,fl=>by rw[wX,sbw,zS m x w];rfl
theorem jA (m:Int):∀(w:List Nat) (fl:List Int),(sbw m w fl).length=fl.length
 | [],fl=>rfl
 | i::w,fl=>by rw[sbw,jA m w,wT]
theorem Jn (fl:List Int):∀(w:List Nat) (m:Int),lew fl w m<=m/\∀i∈w,lew fl w m<=nth fl i
 | [],m=>⟨Int.le_refl _,fun i h=>by cases h⟩
 | i::w,m=>by
   obtain⟨h1,h2⟩:=Jn fl w (mi m (nth fl i));obtain⟨g1,g2,_⟩:=sP m (nth fl i);rw[lew];refine⟨by omega,fun j hj=> ?_⟩;rcases List.mem_cons.1 hj with rfl|hj
   . omega
   . exact h2 j hj
theorem yj (fl:List Int):∀(w:List Nat) (m:Int),lew fl w m=m\/∃i∈w,lew fl w m=nth fl i
 | [],m=>.inl rfl
 | i::w,m=>by
   rw[lew];obtain⟨_,_,g⟩:=sP m (nth fl i);rcases yj fl w (mi m (nth fl i))with h|⟨j,hj,h⟩
   . rcases g with g|g
     . exact .inl (h.trans g)
     . exact .inr ⟨i,by simp,h.trans g⟩
   . exact .inr ⟨j,by simp[hj],h⟩
theorem og (m:Int):∀{w:List Nat} {fl:List Int},w.Nodup->(∀i∈w,i<fl.length)->∀j,nth (sbw m w fl) j=nth fl j-if j∈w then m else 0
 | [],fl,_,_,j=>by simp[sbw]
 | i::w,fl,hn,hl,j=>by
   have hi:=hl i (by simp);rw[List.nodup_cons]at hn;rw[sbw,og m hn.2 (fun k hk=>by rw[wT];exact hl k (by simp[hk])),bZ hi];by_cases e:j=i
   . subst e;rw[if_pos rfl,if_neg hn.1,if_pos (by simp)];omega
   . rw[if_neg e];by_cases h:j∈w
     . rw[if_pos h,if_pos (by simp[h])]
     . rw[if_neg h,if_neg (by simp[h,e])]
end Go.Fl
