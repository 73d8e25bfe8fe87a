/-
  Ways: the arcs that begin at each node. No condition.
-/
import Derived.Test.YtaloneiaejhopaaGreatDoorW51G11x3
import Derived.Test.YtaloneiaejhopaaGreatDoorW51G8x3
set_option linter.all false
open List renaming length_append->wB,length_singleton->wC,take_of_length_le->wD,nil_append->wE,length_nil->wF,map_nil->wG,mem_singleton->wH,getElem?_eq_some_iff->wJ,getElem?_eq_getElem->wK,mem_append->wM,getElem?_eq_none->wN,mem_cons->wO,not_mem_nil->wP,length_set->wQ,getElem?_replicate->wR,getElem_of_mem->wS,nodup_append->wT,ext_getElem?->wU,isEmpty_iff->wW,map_append->wX,map_cons->wY,mem_map->wZ
open Nat renaming reduceEqDiff->w1,zero_add->w2,le_refl->w3
open Option renaming bind_some->w5,isSome_some->w6,isSome_none->w7
open Bool renaming false_eq_true->w8
namespace Go.Proofs.S51.P
open Go Go.Ev Go.Proofs Go.Fl
variable {gl :Gl} {n:Nat}
def bgn (a:List Ar):Nat->Nat->List Nat
 | 0,_=>[]
 | k+1,v=>if(art a k).f=v then bgn a k v++[k]else bgn a k v
theorem oS {a:List Ar}{v i:Nat}:∀{k:Nat},i∈bgn a k v↔i<k/\(art a i).f=v
 | 0=>by simp[bgn]
 | k+1=>by
   rw[bgn];split
   . rename_i h;rw[wM,oS,wH];constructor
     . rintro (⟨h1,h2⟩|rfl)
       . exact⟨by omega,h2⟩
       . exact⟨by omega,h⟩
     . rintro ⟨h1,h2⟩;by_cases e:i=k
       . exact .inr e
       . exact .inl ⟨by omega,h2⟩
   . rename_i h;rw[oS];constructor
     . rintro ⟨h1,h2⟩;exact⟨by omega,h2⟩
     . rintro ⟨h1,h2⟩;by_cases e:i=k
       . rw[e]at h2;exact absurd h2 h
       . exact⟨by omega,h2⟩
theorem ry (a:List Ar)(v:Nat):∀k,(bgn a k v).length<=k
 | 0=>by simp[bgn]
 | k+1=>by
   have:=ry a v k;rw[bgn];split
   . rw[wB,wC];omega
   . omega
def bgs (a:List Ar)(k N:Nat):List (List AV):=(List.range N).map fun v=>us (bgn a k v)
theorem cL (a:List Ar)(k N:Nat):(bgs a k N).length=N:=by simp[bgs]
theorem lJ {a:List Ar}{k N v:Nat}(h:v<N):(bgs a k N)[v]? =some (us (bgn a k v)):=by simp[bgs,h]
noncomputable def L63:MC:=wq 0 m63
abbrev K63 :List Kp:=[.slot 1,.slot 2,.slot 3,.slot 4,.slot 12,.slot 13,.slot 37,.slot 38,.slot 39,.key 4,.key 12,.key 32,.key 35]
section
variable {d N M:Nat} {b:Bool} {sh:Sh} {l:List Ar} {f:Bool} {fl:List Int}
def nj (N:Nat)(b:Bool)(l:List Ar)(f:Bool)(fl:List Int)(k:Nat):Fr :=
 [.set 39 (i64 (k:Int)),.set 38 (i64 (l.length:Int)),.set 37 (.lst b yA4 (rs l)),.set 13 (.sl 35 [] 0 N),.set 12 (.ptr 12 []),.set 4 (.ptr 4 []),.set 3 (.lst f .sc (ns fl)),.set 2 (i64 1),.set 1 (i64 0)]
def C63 (N:Nat)(b:Bool)(l:List Ar)(fl:List Int):Hp:=[(32,.grow .sc (ns fl)),(12,.fix .sc (.sl 32 [] 0 fl.length)),(4,.fix sNt (.agg [i64 (N:Int),.lst b yA4 (rs l)]))]
def T63 (N:Nat)(b:Bool)(l:List Ar)(f:Bool)(fl:List Int)(k:Nat):St:=fT (nj N b l f fl k) [] [] (C63 N b l fl) 35 N .sc κ7 (bgs l k N)
theorem h7 {v k:Nat}(h:v<N):(fE κ7 0 (bgs l k N))[v]? =some (if(us (bgn l k v)).isEmpty then .lst true .sc []else .sl (7000+v) [] 0 (us (bgn l k v)).length):=by rw[tP,lJ h,w2];rfl
theorem g63 {k k':Nat}{r:Hp}(hN:N<=1000)(h:8000<=k'):Hp.get (fH .sc κ7 0 (bgs l k N)++r) k'=Hp.get r k':=tC fun j hj e=>by obtain⟨m,_,h2,h3⟩:=hj;have h4:=(wJ.1 h2).1;rw[cL]at h4;unfold κ7 at e;omega
theorem rp {st:St}{κ:Nat->Nat}{k:Nat}(hN:N<=1000)
  (s1:st.fr.get 1=i64 0) (s2:st.fr.get 2=i64 1) (s3:st.fr.get 3= .lst f .sc (ns fl)) (s4:st.fr.get 4= .ptr 4 []) (s12:st.fr.get 12= .ptr 12 []) (s13:st.fr.get 13= .sl 35 [] 0 N)
  (s37:st.fr.get 37= .lst b yA4 (rs l)) (s38:st.fr.get 38=i64 (l.length:Int)) (s39:st.fr.get 39=i64 (k:Int))
  (h4:st.hp.get 4=some (.fix sNt (.agg [i64 (N:Int),.lst b yA4 (rs l)]))) (h12:st.hp.get 12=some (.fix .sc (.sl 32 [] 0 fl.length))) (h32:st.hp.get 32=some (.grow .sc (ns fl)))
  (h35:st.hp.get 35=some (.fix (.ar N .sc) (.aggR (fE κ 0 (bgs l k N))))) (hb:js st.hp 64 0=[])
  (hget:∀v,v<N->(us (bgn l k v)).isEmpty=false->st.hp.get (κ v)=some (.grow .sc (us (bgn l k v))))
  (hκ:∀v,v<N->κ v=7000+v\/(35<κ v/\κ v<7000)) (hinj:∀u v,u<N->v<N->κ u=κ v->u=v) (tl:List Kp) (t1:∀hp,fC hp tl=[]) (t2:∀hp s,fN hp tl s=some s) (t3:∀s,dC tl s=some s) :
  bT (K63++.fam 35 7000::tl) st=cJ tl (T63 N b l f fl k):=by
 have hlt:∀j,nE (bgs l k N) 0 j->j<N/\(us (bgn l k j)).isEmpty=false:=fun j ⟨m,_,h2,h3⟩=>by rw[Nat.sub_zero]at h2;have h4:=(wJ.1 h2).1;rw[cL]at h4;rw[lJ h4]at h2;cases h2;exact⟨h4,h3⟩
 have hk:∀j,nE (bgs l k N) 0 j->κ j∉[4,12,32,35]:=fun j hj=>by have h1:=(hlt j hj).1;have h2:=hκ j h1;simp only[wO,wP,or_false];omega
 exact ui (st:=st) (ks0:=K63) (bg:=[]) (q0:=35) (base:=7000) (N:=N) (sh:=.sc) (κ:=κ) (ls:=bgs l k N)
  (fr:=nj N b l f fl k) (A:=[]) (B:=[]) (C:=C63 N b l fl) (X:=[4,12,32,35])
  rfl rfl rfl (by simp[eU,gJ,s1,s2,s3,s4,s12,s13,s37,s38,s39,h4,h12,h32,h35,nj,C63]) hb (fun s=>rfl) rfl rfl
  (by decide) (by decide) (fun k hk=>by
    simp only[Kp.slotRefs,s1,s2,s3,s4,s12,s13,s37,s38,s39,h4,h12,h32,h35,er,bO,AV.refs,AV.refss,List.append_nil,wE,wM,wO,wP,or_false,Kp.keys]at hk ⊢;rcases hk with h|h|h|h|h<;>first|(left;omega)|exact .inr (xT h)) (fun s=>rfl) (fun s=>rfl) (fun s=>rfl) h35 (fun j m h1 h2=>by
    have h4:=(wJ.1 h1).1;rw[cL]at h4;rw[lJ h4]at h1;cases h1;exact hget j h4 h2) (by decide) (by simp[okF,nj,AV.refs]) rfl rfl (by simp[okH,C63,bO,AV.refs,AV.refss])
  (fun x hx j hj=>by
    rw[cL]at hj;simp only[wO,wP,or_false]at hx;omega) (by rw[cL];unfold SHK;omega) (fun j hj=>by have:=hκ j (hlt j hj).1;omega) hk (fun a b ha hb e=>hinj a b (hlt a ha).1 (hlt b hb).1 e) tl t1 t2 t3
def κ9 (f v:Nat):Nat:=if v=f then 54 else 7000+v
theorem κ9_b {f v:Nat}:κ9 f v=7000+v\/(35<κ9 f v/\κ9 f v<7000):=by
 unfold κ9;by_cases h:v=f
 . rw[if_pos h];omega
 . rw[if_neg h];omega
theorem κ9_i {f u v:Nat}(hu:u<100000)(e:κ9 f u=κ9 f v):u=v:=by
 unfold κ9 at e;by_cases h1:u=f
 . rw[if_pos h1]at e;by_cases h2:v=f
   . omega
   . rw[if_neg h2]at e;omega
 . rw[if_neg h1]at e;by_cases h2:v=f
   . rw[if_pos h2]at e;omega
   . rw[if_neg h2]at e;omega
theorem KU {k f:Nat}(hf:(art l k).f=f)(hfN:f<N):fE (κ9 f) 0 (bgs l (k+1) N)=(fE κ7 0 (bgs l k N)).set f (.sl 54 [] 0 ((us (bgn l k f)).length+1)):=by
 refine wU fun v=> ?_
 rw[tP,List.getElem?_set,eG,cL,w2];by_cases hv:v<N
 . rw[lJ hv,Option.map_some,bgn,hf];by_cases e1:v=f
   . subst e1;rw[if_pos rfl,dU,κ9,if_pos rfl,wB,if_neg (by simp),if_pos rfl,if_pos hv];rfl
   . rw[if_neg (show ¬f=v from fun e=>e1 e.symm),if_neg (show ¬f=v from fun e=>e1 e.symm),h7 hv];unfold κ9;rw[if_neg e1]
 . have e1:(bgs l (k+1) N)[v]? =none:=by rw[wN];rw[cL];omega
   have e2:(fE κ7 0 (bgs l k N))[v]? =none:=by rw[wN];rw[eG,cL];omega
   rw[e1,e2,if_neg (by omega)];rfl
def LJ (N:Nat)(b:Bool)(l:List Ar)(f:Bool)(fl:List Int):St:=⟨nj N b l f fl 0,(35,.fix (.ar N .sc) (.agg (List.replicate N (.lst true .sc []))))::C63 N b l fl⟩
theorem e63 :fE κ7 0 (bgs l 0 N)=List.replicate N (.lst true .sc []):=by
 refine wU fun v=> ?_
 rw[wR];split
 . rename_i h;rw[h7 h];rfl
 . rw[wN];rw[eG,cL];omega
set_option maxHeartbeats 4000000 in
theorem QP (hN:N<=1000)(hM:l.length<=10000){k:Nat}(hk:k<l.length)(hf:(art l k).f<N) :
  aK O0 (evC gl (call gl tab d) L63 (T63 N b l f fl k))=some (T63 N b l f fl (k+1)):=by
 have hx:=dY hk;have ef:=h7 (l:=l) (k:=k) hf;have gf:=fun r h=>g7' (r:=r) (lJ (a:=l) (k:=k) hf) h
 have lf:=eG κ7 0 (bgs l k N);rw[cL]at lf;have l1:1<=LIM:=by unfold LIM;omega
 have b1:=ry l (art l k).f k;have tk:∀(u:List AV) (v:AV),(u++[v]).take (u.length+1)=u++[v]:=fun u v=>wD (by simp)
 rw[<-aj]at b1;generalize hE:evC gl (call gl tab d) L63 (T63 N b l f fl k)=r;have eF:=KU (N:=N) (l:=l) (k:=k) rfl hf;generalize huf:us (bgn l k (art l k).f)=uf at *
 have l2:uf.length+1<=LIM:=by unfold LIM;omega
 have us1:us (bgn l (k+1) (art l k).f)=uf++[i64 (k:Int)]:=by rw[bgn,if_pos rfl,dU,huf]
 have us3:∀v,v≠(art l k).f->bgn l (k+1) v=bgn l k v:=fun v h1=>by rw[bgn,if_neg (fun h=>h1 h.symm)]
 have hget:∀v,v<N->∀r,(us (bgn l k v)).isEmpty=false->Hp.get (fH .sc κ7 0 (bgs l k N)++r) (7000+v)=some (.grow .sc (us (bgn l k v))):=fun v hv r h=>g7' (lJ hv) h
 have n1:∀v,(15==7000+v)=false:=fun v=>by rw[beq_eq_false_iff_ne];omega
 cases h1:uf.isEmpty with
 | true =>
   obtain rfl:=wW.1 h1;rw[if_pos h1]at ef;simp(disch:=apply zq;omega) only[go_sem,simprocAttr,↓w1,xx,L63,T63,fT,nj,C63,ak,hx,g7,ef,lf,l1,wQ]at hE;subst hE;rw[cW];refine rp (κ:=κ9 (art l k).f) hN rfl rfl rfl rfl rfl rfl rfl rfl rfl (by simp(disch:=apply zq;omega) only[go_sem,simprocAttr,↓w1,xx,g7]) (by simp(disch:=apply zq;omega) only[go_sem,simprocAttr,↓w1,xx,g7]) (by simp(disch:=apply zq;omega) only[go_sem,simprocAttr,↓w1,xx,g7]) (by simp(disch:=apply zq;omega) only[go_sem,simprocAttr,↓w1,xx,eF,wF]) (by simp(disch:=apply zq;omega) only[go_sem,simprocAttr,↓w1,xx,js,g63]) (fun v hv he=> ?_) (fun v _=>κ9_b) (fun u v hu _=>κ9_i (by omega)) [] (fun _=>rfl) (fun _ _=>rfl) (fun _=>rfl);by_cases e1:v=(art l k).f
   . subst e1;rw[us1];simp(disch:=apply zq;omega) only[go_sem,simprocAttr,↓w1,xx,κ9,wE]
   . rw[us3 v e1]at he ⊢;have:=hget v hv;unfold κ9;rw[if_neg e1];simp(disch:=apply zq;omega) only[go_sem,simprocAttr,↓w1,xx,this,he]
 | false =>
   rw[if_neg (by rw[h1];decide)]at ef;have gf:=fun r=>gf r h1
   simp(disch:=apply zq;omega) only[go_sem,simprocAttr,↓w1,xx,L63,T63,fT,nj,C63,ak,hx,g7,ef,lf,l1,wQ,gf,l2,tk,n1]at hE;subst hE;rw[cW];refine rp (κ:=κ9 (art l k).f) hN rfl rfl rfl rfl rfl rfl rfl rfl rfl (by simp(disch:=apply zq;omega) only[go_sem,simprocAttr,↓w1,xx,g7]) (by simp(disch:=apply zq;omega) only[go_sem,simprocAttr,↓w1,xx,g7]) (by simp(disch:=apply zq;omega) only[go_sem,simprocAttr,↓w1,xx,g7]) (by simp(disch:=apply zq;omega) only[go_sem,simprocAttr,↓w1,xx,eF,wF]) (by simp(disch:=apply zq;omega) only[go_sem,simprocAttr,↓w1,xx,js,g63]) (fun v hv he=> ?_) (fun v _=>κ9_b) (fun u v hu _=>κ9_i (by omega)) [] (fun _=>rfl) (fun _ _=>rfl) (fun _=>rfl);by_cases e1:v=(art l k).f
   . subst e1;rw[us1];simp(disch:=apply zq;omega) only[go_sem,simprocAttr,↓w1,xx,κ9,wE]
   . rw[us3 v e1]at he ⊢;have:=hget v hv;unfold κ9;rw[if_neg e1];simp(disch:=apply zq;omega) only[go_sem,simprocAttr,↓w1,xx,this,he]
theorem Mt (hN:N<=1000)(hM:l.length<=10000)(hk:0<l.length)(hf:(art l 0).f<N):aK O0 (evC gl (call gl tab d) L63 (LJ N b l f fl))=some (T63 N b l f fl 1):=by
 have hx:=dY hk;have l1:1<=LIM:=by unfold LIM;omega
 have ef:(List.replicate N (AV.lst true .sc []))[(art l 0).f]? =some (.lst true .sc []):=by rw[wR,if_pos hf]
 generalize hE:evC gl (call gl tab d) L63 (LJ N b l f fl)=r;simp(disch:=apply zq;omega) only[go_sem,simprocAttr,↓w1,xx,L63,LJ,nj,C63,ak,hx,ef,l1,wQ,List.length_replicate]at hE;have eF:=KU (N:=N) (l:=l) (k:=0) rfl hf;rw[e63]at eF;subst hE;rw[cW];refine rp (κ:=κ9 (art l 0).f) hN rfl rfl rfl rfl rfl rfl rfl rfl rfl (by simp(disch:=apply zq;omega) only[go_sem,simprocAttr,↓w1,xx]) (by simp(disch:=apply zq;omega) only[go_sem,simprocAttr,↓w1,xx]) (by simp(disch:=apply zq;omega) only[go_sem,simprocAttr,↓w1,xx]) (by simp(disch:=apply zq;omega) only[go_sem,simprocAttr,↓w1,xx,eF,bgn,us,wG,wF]) (by simp(disch:=apply zq;omega) only[go_sem,simprocAttr,↓w1,xx,js]) (fun v hv he=> ?_) (fun v _=>κ9_b) (fun u v hu _=>κ9_i (by omega)) [] (fun _=>rfl) (fun _ _=>rfl) (fun _=>rfl);by_cases e1:v=(art l 0).f
 . subst e1;simp(disch:=apply zq;omega) only[go_sem,simprocAttr,↓w1,xx,κ9,bgn,dU,us,wG,wE,if_true]
 . rw[show bgn l (0+1) v=[] by rw[bgn,if_neg (fun h=>e1 h.symm)];rfl]at he;cases he
theorem PR {k v:Nat}(h:v∈fKs κ7 0 (bgs l k N)):7000<=v/\v<7000+N:=by obtain⟨j,⟨m,_,h2,_⟩,rfl⟩:=yL.1 h;have h4:=(wJ.1 h2).1;rw[cL]at h4;unfold κ7;omega
def bgV (l:List Ar)(N:Nat):List AV:=(bgs l l.length N).map (lV .sc)
theorem VS (hN:N<=1000){k:Nat}(hk:k=l.length)(x:FE)(hx:x= .set 40 (.bool false)):∃H:Hp,bT (K63++.fam 35 7000::[.frs 13]) ⟨x::nj N b l f fl k,(T63 N b l f fl k).hp⟩=some ⟨.set 13 (.lst false .sc (bgV l N))::nj N b l f fl k,H⟩ /\
  H.get 4=some (.fix sNt (.agg [i64 (N:Int),.lst b yA4 (rs l)]))/\H.get 12=some (.fix .sc (.sl 32 [] 0 fl.length))/\H.get 32=some (.grow .sc (ns fl))/\(∀j,8000<=j->H.get j=none)/\∀j,35<j->j<7000->H.get j=none:=by
 subst hx hk;have g35:Hp.get (T63 N b l f fl l.length).hp 35=some (.fix (.ar N .sc) (.aggR (fE κ7 0 (bgs l l.length N)))):=by simp(disch:=apply zq;omega) only[go_sem,simprocAttr,↓w1,xx,T63,fT,C63,g7]
 have hz:gK (T63 N b l f fl l.length).hp (fE κ7 0 (bgs l l.length N))=some ((bgs l l.length N).map (lV .sc),fKs κ7 0 (bgs l l.length N)):=tF fun j m h1 h2=>by rw[w2];exact g7' h1 h2
 have ha:(fKs κ7 0 (bgs l l.length N)).all (fun j=>decide (j<SHK))=true:=by rw[List.all_eq_true];intro j hj;have:=PR hj;exact decide_eq_true (by unfold SHK;omega)
 have gd:∀r k',k'≠35->k'<7000\/8000<=k'->Hp.get (ct (35::fKs κ7 0 (bgs l l.length N))++r) k'=Hp.get r k':=fun r k' h1 h2=>pN fun h=>by
  rw[wO]at h;rcases h with h|h
  . exact h1 h
  . have:=PR h;omega
 refine⟨ct (35::fKs κ7 0 (bgs l l.length N))++(T63 N b l f fl l.length).hp,?_,?_,?_,?_,fun j hj=> ?_,fun j h1 h2=> ?_⟩
 . rw[rp (κ:=κ7) hN rfl rfl rfl rfl rfl rfl rfl rfl rfl (by simp(disch:=apply zq;omega) only[go_sem,simprocAttr,↓w1,xx,T63,fT,C63,g7]) (by simp(disch:=apply zq;omega) only[go_sem,simprocAttr,↓w1,xx,T63,fT,C63,g7]) (by simp(disch:=apply zq;omega) only[go_sem,simprocAttr,↓w1,xx,T63,fT,C63,g7]) (by simp(disch:=apply zq;omega) only[go_sem,simprocAttr,↓w1,xx,T63,fT,C63,g7]) (by simp(disch:=apply zq;omega) only[go_sem,simprocAttr,↓w1,xx,js,T63,fT,C63,g63]) (fun v hv he=>g7' (lJ hv) he) (fun v _=>.inl rfl) (fun u v _ _ e=>by unfold κ7 at e;omega) [.frs 13] (fun _=>rfl) (fun _ _=>rfl) (fun _=>rfl)];have hd:decide (35<SHK)=true:=by decide
   have:Gs (T63 N b l f fl l.length) 13=some ⟨.set 13 (.lst false .sc (bgV l N))::nj N b l f fl l.length,ct (35::fKs κ7 0 (bgs l l.length N))++(T63 N b l f fl l.length).hp⟩:=by have h13:(T63 N b l f fl l.length).fr.get 13= .sl 35 [] 0 N:=rfl;unfold Gs bgV;rw[h13];simp only[g35,AV.kids,hz,w5,ha,hd,Bool.and_true,if_true,decide_true];rfl
   rw[cJ,this];rfl
 . rw[gd _ _ (by omega) (by omega)];simp(disch:=apply zq;omega) only[go_sem,simprocAttr,↓w1,xx,T63,fT,C63,g7]
 . rw[gd _ _ (by omega) (by omega)];simp(disch:=apply zq;omega) only[go_sem,simprocAttr,↓w1,xx,T63,fT,C63,g7]
 . rw[gd _ _ (by omega) (by omega)];simp(disch:=apply zq;omega) only[go_sem,simprocAttr,↓w1,xx,T63,fT,C63,g7]
 . rw[gd _ _ (by omega) (by omega)];show Hp.get (fH .sc κ7 0 (bgs l l.length N)++_) j=none;rw[g63 hN hj];simp only[C63,dL,wE];rw[if_neg (by omega),if_neg (by omega),if_neg (by omega),if_neg (by omega)];rfl
 . rw[gd _ _ (by omega) (by omega)];show Hp.get (fH .sc κ7 0 (bgs l l.length N)++_) j=none;rw[g7 h2];simp only[C63,dL,wE];rw[if_neg (by omega),if_neg (by omega),if_neg (by omega),if_neg (by omega)];rfl
end
section
variable {d :Nat} {g:Nt} {b f:Bool} {rest:List Int} (ha:g.a.length<=4000)
include ha
theorem X7 (hr:rest.length=g.a.length){l:List Nat}(hl:∀x∈l,x<g.a.length):Fn1 gl (d+1) 93 [.cp .sc (.lst f .sc (ns rest))] l (fun x=>0<nth rest x) where
 lt:=by decide
 ld hp:=by simp only[go_sem]
 l3 hp:=by simp only[go_sem]
 rf:=rfl
 at_ x hx:=by have hxl:=hl x hx;have x1:=bc (show x<rest.length by omega);refine⟨decide (0<nth rest x),by simp,?_⟩;rw[au (fd:=SP) rfl];simp(disch:=apply zq;omega) only[go_sem,simprocAttr,↓w1,xx,SP,m93,x1,ae,hr]
theorem X6 {at_:Nat}{l:List Nat}(hl:∀x∈l,x<g.a.length):Fn1 gl (d+1) 94 [.cp sNt (nV g b yA4),.cp .sc (i64 (at_:Int))] l (fun x=>(art g.a x).f=at_) where
 lt:=by decide
 ld hp:=by simp only[go_sem]
 l3 hp:=by simp only[go_sem]
 rf:=rfl
 at_ x hx:=by have hxl:=hl x hx;have x1:=dY hxl;refine⟨((art g.a x).f:Int)==(at_:Int),by rw[beq_iff_eq];omega,?_⟩;rw[au (fd:=SO) rfl];simp(disch:=apply zq;omega) only[go_sem,simprocAttr,↓w1,xx,SO,m94,x1,ak]
end
noncomputable def oZ:MC:=wq 4 m63
def wsV (ws:List (List Nat)):AV:=if ws.isEmpty then .lst true .sc []else .sl 5016 [] 0 ws.length
def wsE (ws:List (List Nat)):List NE:=ws.map fun w=>.own (us w)
theorem L5 (ws:List (List Nat)):(wsE ws).length=ws.length:=by simp[wsE]
theorem gx :∀ws:List (List Nat),dE (wsE ws)=[]
 | []=>rfl
 | w::ws=>gx ws
theorem iG (ρ:Nat->Nat):∀ws:List (List Nat),kq ρ (wsE ws)=wsE ws
 | []=>rfl
 | w::ws=>by show rNE ρ (.own (us w))::kq ρ (wsE ws)=_;rw[iG ρ ws];rfl
theorem lP (hp:Hp):∀ws:List (List Nat),ju hp (wsE ws)=some (wsE ws,[])
 | []=>rfl
 | w::ws=>by show(u5 hp (.own (us w))).bind (fun a=>(ju hp (wsE ws)).map fun r=>(a.1::r.1,a.2++r.2))=_;rw[lP hp ws];rfl
theorem Hh (hp:Hp)(k n:Nat):∀ws:List (List Nat),ju hp (wsE ws++[.nm k n])=(u5 hp (.nm k n)).map fun a=>(wsE ws++[a.1],a.2)
 | []=>by show(u5 hp (.nm k n)).bind (fun a=>some ([a.1],a.2++[]))=_;cases u5 hp (.nm k n)<;>simp[wsE]
 | w::ws=>by show(u5 hp (.own (us w))).bind (fun a=>(ju hp (wsE ws++[.nm k n])).map fun r=>(a.1::r.1,a.2++r.2))=_;rw[Hh hp k n ws];cases u5 hp (.nm k n)<;>rfl
theorem DF (ws:List (List Nat))(w:List Nat):wsE (ws++[w])=wsE ws++[.own (us w)]:=by simp[wsE]
def wsH (ws:List (List Nat)):Hp:=if ws.isEmpty then []else [(5016,.nest (wsE ws))]
structure W4 where
 ws:List (List Nat)
 num:List Int
 rest:List Int
 left:Int
def jv (g:Nt)(b:Bool)(w:W4)(way:List Nat)(at_:Nat):St :=
 ⟨[.set 20 (.ptr 20 []),.set 19 (.sl 5019 [] 0 way.length),.set 18 (i64 w.left),.set 17 (.sl 5017 [] 0 w.num.length),.set 16 (wsV w.ws),.set 13 (.lst false .sc (bgV g.a g.n)),.set 12 (.ptr 12 []),.set 4 (.ptr 4 []),.set 2 (i64 1),.set 1 (i64 0)],
   wsH w.ws++[(20,.fix .sc (i64 (at_:Int))),(5017,.grow .sc (ns w.num)),(32,.grow .sc (ns w.rest)),(12,.fix .sc (.sl 32 [] 0 w.rest.length)),(4,.fix sNt (nV g b yA4)),(5019,.grow .sc (us way))]⟩
theorem vP {ks:List Kp}{st:St}:AH ks (some (.norm,st))=(bT ks st).map fun st=>(.norm,st):=rfl
theorem Uj {l:List Ar}{N v:Nat}(h:v<N):(bgV l N)[v]? =some (lV .sc (us (bgn l l.length v))):=by rw[bgV,List.getElem?_map,lJ h];rfl
theorem ES (l:List Ar)(N:Nat):(bgV l N).length=N:=by simp[bgV,cL]
section
variable {d :Nat} {g:Nt} {b:Bool} {w:W4} {way:List Nat} {at_:Nat} (hg:GOk g) (hr:w.rest.length=g.a.length) (hat:at_<g.n) (hwl:way.length<=100000) (hway:∀x∈way,x<g.a.length)
include hg hr hat hwl hway
theorem Na (ho:∃i,i<g.a.length/\(art g.a i).f=at_/\0<nth w.rest i):∃k i,k<(bgn g.a g.a.length at_).length/\(bgn g.a g.a.length at_)[k]? =some i/\i<g.a.length/\(art g.a i).f=at_/\0<nth w.rest i /\
  (bgV g.a g.n)[at_]? =some (.lst false .sc (us (bgn g.a g.a.length at_)))/\call gl tab (d+3) 92 [.lst false .sc (us (bgn g.a g.a.length at_)),.fn 93 [.cp .sc (.lst false .sc (ns w.rest))]] []=some (i64 (k:Int),[],[]):=by
 have ha:=hg.a;have hbl:=ry g.a at_ g.a.length;obtain⟨k,hk1,hk2,hk3,c1⟩:=@tv gl (d+2) 93 [.cp .sc (.lst false .sc (ns w.rest))] false .sc (bgn g.a g.a.length at_) (fun x=>0<nth w.rest x) (by omega) rfl (X7 ha hr fun x hx=>(oS.1 hx).1);have hkl:k<(bgn g.a g.a.length at_).length:=by apply Classical.byContradiction;intro hc;obtain⟨i,h1,h2,h3⟩:=ho;obtain⟨j,hj,e⟩:=wS (oS.2 ⟨h1,h2⟩:i∈bgn g.a g.a.length at_);exact hk2 j i (by omega) (by rw[wK hj,e]) h3
 rw[if_pos hkl]at c1;obtain⟨i,hi⟩:∃i,(bgn g.a g.a.length at_)[k]? =some i:=⟨_,wK hkl⟩;have hib:=oS.1 (List.mem_of_getElem? hi);have x1:=Uj (l:=g.a) hat;have e1:lV .sc (us (bgn g.a g.a.length at_))= .lst false .sc (us (bgn g.a g.a.length at_)):=by unfold lV;rw[fR,if_neg];rw[wW];intro e;rw[e]at hkl;simp at hkl
 rw[e1]at x1;exact⟨k,i,hkl,hi,hib.1,hib.2,hk3 i hi,x1,c1⟩
theorem Mr (h1:at_≠1){k i:Nat}(hkl:k<(bgn g.a g.a.length at_).length)(hi:(bgn g.a g.a.length at_)[k]? =some i)(hia:i<g.a.length)(x1:(bgV g.a g.n)[at_]? =some (.lst false .sc (us (bgn g.a g.a.length at_))))
  (c1:call gl tab (d+3) 92 [.lst false .sc (us (bgn g.a g.a.length at_)),.fn 93 [.cp .sc (.lst false .sc (ns w.rest))]] []=some (i64 (k:Int),[],[]))
  (c2:call gl tab (d+3) 92 [.lst false .sc (us (way++[i])),.fn 94 [.cp sNt (nV g b yA4),.cp .sc (i64 ((art g.a i).t:Int))]] []=some (i64 (-1),[],[])) :
  aK O1 (evC gl (call gl tab (d+3)) oZ (jv g b w way at_))=some (jv g b w (way++[i]) (art g.a i).t):=by
 have ha:=hg.a;have hn:=hg.n;have x2:=dy hi;have x3:=dY hia;have lb:=ES g.a g.n;have eN:List.take w.rest.length (ns w.rest)=ns w.rest:=wD (by rw[ae];omega);have eW:List.take way.length (us way)=us way:=wD (by rw[aj];omega);have eW2:List.take (way.length+1) (us way++[i64 (i:Int)])=us way++[i64 (i:Int)]:=wD (by rw[wB,aj];exact w3 _);have b1:((at_:Int) != 1)=true:=by simp;omega
 have l1:way.length+1<=LIM:=by unfold LIM;omega
 rw[dU]at c2
 cases hws:w.ws with
 | nil =>simp(disch:=apply zq;omega) only[go_sem,simprocAttr,↓w1,xx,oZ,jv,wsV,wsH,hws,b1,x1,x2,x3,lb,eN,eW,eW2,l1,c1,c2,aj,ak,ae,w5,dU];simp(disch:=apply zq;omega) only[go_sem,simprocAttr,↓w1,xx,vP,jj,w7,w6,w8,j4,eW2,aj,wB,wC,rOB]
 | cons w0 ws =>simp(disch:=apply zq;omega) only[go_sem,simprocAttr,↓w1,xx,oZ,jv,wsV,wsH,hws,b1,x1,x2,x3,lb,eN,eW,eW2,l1,c1,c2,aj,ak,ae,w5,dU];simp(disch:=apply zq;omega) only[go_sem,simprocAttr,↓w1,xx,vP,jj,w7,w6,w8,j4,eW2,aj,wB,wC,rOB,lP,gx,iG,w5,bO,er]
end
noncomputable def uG:MC:=wq 2 m63
def lO (g:Nt)(b:Bool)(w:W4):St :=
 ⟨[.set 18 (i64 w.left),.set 17 (.sl 5017 [] 0 w.num.length),.set 16 (wsV w.ws),.set 13 (.lst false .sc (bgV g.a g.n)),.set 12 (.ptr 12 []),.set 4 (.ptr 4 []),.set 2 (i64 1),.set 1 (i64 0)],
   wsH w.ws++[(32,.grow .sc (ns w.rest)),(12,.fix .sc (.sl 32 [] 0 w.rest.length)),(4,.fix sNt (nV g b yA4)),(5017,.grow .sc (ns w.num))]⟩
structure WI (g:Nt)(rest:List Int)(a:List Nat×Nat):Prop where
 w:wlk g.a 0 a.1 a.2
 p:∀i∈a.1,0<nth rest i
 nd:(frm g.a a.1).Nodup
 at_:a.2∉frm g.a a.1
 n:a.2<g.n
theorem WI.len {g:Nt}(hg:GOk g){rest:List Int}{a:List Nat×Nat}(h:WI g rest a):a.1.length<=g.n:=by
 have h1:=yk h.nd (n:=g.n) fun v hv=>by obtain⟨i,hi,rfl⟩:=wZ.1 hv;exact hg.ok.f i (iT h.w hi)
 rwa [frm,List.length_map]at h1
structure WC (gl:Gl)(d:Nat)(g:Nt)(b:Bool)(rest:List Int)(a:List Nat×Nat)(k i j:Nat):Prop where
 ne:a.2≠1
 kl:k<(bgn g.a g.a.length a.2).length
 hi:(bgn g.a g.a.length a.2)[k]? =some i
 ia:i<g.a.length
 f:(art g.a i).f=a.2
 p:0<nth rest i
 x1:(bgV g.a g.n)[a.2]? =some (.lst false .sc (us (bgn g.a g.a.length a.2)))
 c1:call gl tab (d+3) 92 [.lst false .sc (us (bgn g.a g.a.length a.2)),.fn 93 [.cp .sc (.lst false .sc (ns rest))]] []=some (i64 (k:Int),[],[])
 hj:j<(a.1++[i]).length
 c2:call gl tab (d+3) 92 [.lst false .sc (us (a.1++[i])),.fn 94 [.cp sNt (nV g b yA4),.cp .sc (i64 ((art g.a i).t:Int))]] []=some (i64 (j:Int),[],[])
 cy:wlk g.a (art g.a i).t ((a.1++[i]).drop j) (art g.a i).t
section
variable {d :Nat} {g:Nt} {b:Bool} {w:W4} (hg:GOk g) (hr:RI g w.rest w.left) (hl:0<w.left)
include hg hr hl
theorem Lh {a:List Nat×Nat}{k i j:Nat}(hw:WI g w.rest a)(hc:WC gl d g b w.rest a k i j)(m:Int)(rest':List Int)(hrl:rest'.length=w.rest.length)
  (c3:call gl tab (d+3) 95 [.sl 100000 [] 0 w.rest.length,.sl 100001 [] j (a.1.length+1-j)] [(100000,.grow .sc (ns w.rest)),(100001,.grow .sc (us (a.1++[i])))]=some (i64 m,[(100000,.grow .sc (ns rest')),(100001,.grow .sc (us (a.1++[i])))],[])) :
  ∃st,evC gl (call gl tab (d+3)) oZ (jv g b w a.1 a.2)=some (.exit 3,st)/\bT DD st=some (lO g b {w with rest:=rest'}):=by
 have ha:=hg.a;have hn:=hg.n;have hwl:=hw.len hg;obtain⟨way,at_⟩:=a;have hat:=hw.n;obtain⟨h1,hkl,hi,hia,hif,hip,x1,c1,hj,c2,cy⟩:=hc;simp only at *
 have x2:=dy hi;have x3:=dY hia;have lb:=ES g.a g.n;have hrl0:=hr.fb.l;have eN:List.take w.rest.length (ns w.rest)=ns w.rest:=wD (by rw[ae];omega);have eW:List.take way.length (us way)=us way:=wD (by rw[aj];omega);have eW2:List.take (way.length+1) (us way++[i64 (i:Int)])=us way++[i64 (i:Int)]:=wD (by rw[wB,aj];exact w3 _);have b1:((at_:Int) != 1)=true:=by simp;omega
 have l1:way.length+1<=LIM:=by unfold LIM;omega
 have hbl:=ry g.a at_ g.a.length;rw[wB,wC]at hj;rw[dU]at c2 c3;generalize hE:evC gl (call gl tab (d+3)) oZ (jv g b w way at_)=r
 cases hws:w.ws with
 | nil =>simp(disch:=apply zq;omega) only[go_sem,simprocAttr,↓w1,xx,oZ,jv,wsV,wsH,hws,b1,x1,x2,x3,lb,eN,eW,eW2,l1,c1,c2,c3,aj,ak,ae,w5,dU]at hE;subst hE;refine⟨_,rfl,?_⟩;simp(disch:=apply zq;omega) only[go_sem,simprocAttr,↓w1,xx,jj,w7,w6,w8,j4,lO,wsV,wsH,hws,ae,hrl]
 | cons w0 ws =>simp(disch:=apply zq;omega) only[go_sem,simprocAttr,↓w1,xx,oZ,jv,wsV,wsH,hws,b1,x1,x2,x3,lb,eN,eW,eW2,l1,c1,c2,c3,aj,ak,ae,w5,dU]at hE;subst hE;refine⟨_,rfl,?_⟩;simp(disch:=apply zq;omega) only[go_sem,simprocAttr,↓w1,xx,jj,w7,w6,w8,j4,lO,wsV,wsH,hws,ae,hrl,rOB,lP,gx,iG,w5,bO,er]
theorem DN {a:List Nat×Nat}{k i j:Nat}(hw:WI g w.rest a)(hc:WC gl d g b w.rest a k i j):((a.1++[i]).drop j).Nodup/\0<((a.1++[i]).drop j).length/\(∀x∈(a.1++[i]).drop j,0<nth w.rest x)/\wlk g.a (art g.a i).t ((a.1++[i]).drop j) (art g.a i).t /\
  call gl tab (d+3) 95 [.sl 100000 [] 0 w.rest.length,.sl 100001 [] j (a.1.length+1-j)] [(100000,.grow .sc (ns w.rest)),(100001,.grow .sc (us (a.1++[i])))] =
   some (i64 (lew w.rest ((a.1++[i]).drop j) (nth w.rest (((a.1++[i]).drop j).headD 0))),[(100000,.grow .sc (ns (sbw (lew w.rest ((a.1++[i]).drop j) (nth w.rest (((a.1++[i]).drop j).headD 0))) ((a.1++[i]).drop j) w.rest))),(100001,.grow .sc (us (a.1++[i])))],[]):=by
 have ha:=hg.a;have hn:=hg.n;have hrl:=hr.fb.l;have hwl:=hw.len hg;have hj:=hc.hj;have hl2:((a.1++[i]).drop j).length=a.1.length+1-j:=by rw[List.length_drop,wB,wC]
 have hnd:(a.1++[i]).Nodup:=by refine jo (a:=g.a) ?_;rw[frm,wX,wT];refine⟨hw.nd,by simp,fun x hx y hy=> ?_⟩;simp only[wY,wG,wH]at hy;rw[hy,hc.f];exact fun e=>hw.at_ (e▸hx)
 have hnd2:=hnd.sublist (List.drop_sublist j _);have hp:∀x∈(a.1++[i]).drop j,0<nth w.rest x:=fun x hx=>by
  rcases wM.1 (List.mem_of_mem_drop hx)with hx|hx
  . exact hw.p x hx
  . rw[wH]at hx;subst hx;exact hc.p
 rw[wB,wC]at hj;have hlt:∀x∈(a.1++[i]).drop j,x<g.a.length:=fun x hx=>iT hc.cy hx
 have:=@take_at gl (d+2) w.rest.length w.rest (a.1++[i]) ((a.1++[i]).drop j) j ⟨rfl,by omega⟩ rfl (by rw[wB,wC];omega) (fun x hx=>by rw[hrl];exact hlt x hx) (by omega) hnd2
  (fun x hx=>by have h1:=hr.fb.b x (hlt x hx);have h2:=hg.c x (hlt x hx);omega)
 rw[hl2]at this;exact⟨hnd2,by omega,hp,hc.cy,this⟩
omit hg hr hl in
theorem TT (way:List Nat):∃st,evC gl (call gl tab (d+3)) oZ (jv g b w way 1)=some (.exit 4,st):=by
 cases hws:w.ws with
 | nil=>simp(disch:=apply zq;omega) only[go_sem,simprocAttr,↓w1,xx,oZ,jv,wsV,wsH,hws];exact⟨_,rfl⟩
 | cons w0 ws=>simp(disch:=apply zq;omega) only[go_sem,simprocAttr,↓w1,xx,oZ,jv,wsV,wsH,hws];exact⟨_,rfl⟩
theorem Qe (hs:∀i,i<g.a.length->(art g.a i).t≠0)(h0:0<g.n):∃a,WI g w.rest a/\(a.2=1\/∃k i j,WC gl d g b w.rest a k i j) /\
  ∀st,bT O1 st=some (jv g b w [] 0)->fG (evC gl (call gl tab (d+3)) oZ) O1 LF st=evC gl (call gl tab (d+3)) oZ (jv g b w a.1 a.2):=by
 have ha:=hg.a;have hn:=hg.n;refine fF (fun a:List Nat×Nat=>jv g b w a.1 a.2) (WI g w.rest) _ (fun a=>200-a.1.length) (a0:=([],0)) (by unfold LF;simp) ⟨rfl,(fun i h=>by cases h),List.nodup_nil,(fun h=>by cases h),h0⟩ fun a hw=> ?_
 obtain⟨way,at_⟩:=a;have hwl:=hw.len hg;have hat:=hw.n;simp only at hwl hat ⊢;by_cases e:at_=1
 . left;subst e;obtain⟨st,h⟩:=@TT gl d g b w way;exact⟨.inl rfl,by rw[h];rfl⟩
 . have ho:=Nf hr hl hg.ok.ne hw.w hw.p e;have hway:∀x∈way,x<g.a.length:=fun x hx=>iT hw.w hx
   obtain⟨k,i,hkl,hi,hia,hif,hip,x1,c1⟩:=@Na gl d g w way at_ hg hr.fb.l hat (by omega) hway ho;obtain⟨j,hj1,hj2,hj3,c2⟩:=@tv gl (d+2) 94 [.cp sNt (nV g b yA4),.cp .sc (i64 ((art g.a i).t:Int))] false .sc (way++[i]) (fun x=>(art g.a x).f=(art g.a i).t) (by rw[wB,wC];omega) rfl
    (X6 ha fun x hx=>by
      rcases wM.1 hx with hx|hx
      . exact hway x hx
      . rw[wH]at hx;subst hx;exact hia)
   have hwlk:=Hl hw.w hia hif;by_cases hjl:j<(way++[i]).length
   . left;rw[if_pos hjl]at c2;have hx:(way++[i])[j]? =some (way++[i])[j]:=wK hjl;have hq:=hj3 _ hx;have hcy:wlk g.a (art g.a i).t ((way++[i]).drop j) (art g.a i).t:=by have e1:=List.take_append_drop j (way++[i]);rw[<-e1]at hwlk;obtain⟨x,_,h2⟩:=nI.1 hwlk;have e2:(way++[i]).drop j=(way++[i])[j]::(way++[i]).drop (j+1):=List.drop_eq_getElem_cons hjl;have h3:=h2;rw[e2]at h3;have hx':x=(art g.a i).t:=h3.2.1.symm.trans hq;rw[hx']at h2;exact h2
     have hc:WC gl d g b w.rest (way,at_) k i j:=⟨e,hkl,hi,hia,hif,hip,x1,c1,hjl,c2,hcy⟩;refine⟨.inr ⟨k,i,j,hc⟩,?_⟩;obtain⟨_,_,_,_,c3⟩:=DN (b:=b) hg hr hl hw hc;obtain⟨st,h,_⟩:=Lh hg hr hl hw hc _ _ (jA ..) c3;rw[h];rfl
   . right;rw[if_neg hjl]at c2;have h1:=@Mr gl d g b w way at_ hg hr.fb.l hat (by omega) hway e k i hkl hi hia x1 c1 c2;have hnf:∀x∈way++[i],(art g.a x).f≠(art g.a i).t:=fun x hx=>by obtain⟨t,ht,rfl⟩:=wS hx;exact hj2 t _ (by omega) (wK ht)
     refine⟨(way++[i],(art g.a i).t),⟨hwlk,fun x hx=> ?_,?_,?_,hg.ok.t i hia⟩,?_,h1⟩
     . rcases wM.1 hx with hx|hx
       . exact hw.p x hx
       . rw[wH]at hx;subst hx;exact hip
     . show(frm g.a (way++[i])).Nodup;rw[frm,wX,wT];refine⟨hw.nd,by simp,fun x hx y hy=> ?_⟩;simp only[wY,wG,wH]at hy;rw[hy,hif];exact fun e=>hw.at_ (e▸hx)
     . intro hm;obtain⟨x,hx,e2⟩:=wZ.1 hm;exact hnf x hx e2
     . show 200-(way++[i]).length<200-way.length;rw[wB,wC];omega
end
section
variable {d :Nat} {g:Nt} {b:Bool} {w:W4} {fl:List Int} {tot:Int} (hg:GOk g) (hs:∀i,i<g.a.length->(art g.a i).t≠0) (h2:2<=g.n) (ht:tot<=1000000) (h:WS g fl tot w.ws w.num w.rest w.left) (hl:0<w.left)
include hg hs h2 ht h hl
theorem Ms :∃w':W4,WS g fl tot w'.ws w'.num w'.rest w'.left/\msr 1073741824 w'.rest<msr 1073741824 w.rest/\aK DD (evC gl (call gl tab (d+3)) uG (lO g b w))=some (lO g b w'):=by
 have ha:=hg.a;have hn:=hg.n;have hrl:=h.ri.fb.l;have hln:=h.ln;have hlen:=h.len;obtain⟨a,hw,hfin,hit⟩:=@Qe gl d g b w hg h.ri hl hs (by omega);have hbd:∀i,i<g.a.length->nth w.rest i<=1073741824:=fun i hi=>by have h1:=h.ri.fb.b i hi;have h2:=hg.c i hi;omega
 by_cases e1:a.2=1
 . obtain⟨way,at_⟩:=a;simp only at e1;subst e1;have hwl:=hw.len hg;have hww:wlk g.a 0 way 1:=hw.w;have hp0:∀i∈way,0<nth w.rest i:=hw.p;have hnd:(frm g.a way).Nodup:=hw.nd;simp only at hwl hit
   have hne:0<way.length:=by
    rcases way with _|⟨x,y⟩
    . cases hww
    . simp
   have hlt:∀i∈way,i<g.a.length:=fun i hi=>iT hww hi
   obtain⟨m1,m2,_⟩:=q9 hne hp0;have hle:lew w.rest way (nth w.rest (way.headD 0))<=w.left:=by
    obtain⟨x,l,rfl⟩:∃x l,way=x::l:=by cases way with|nil=>simp at hne|cons x l=>exact⟨x,l,rfl⟩
    exact Int.le_trans (m2 x (by simp)) (Qd h.ri hs (fun i hi=>⟨hg.ok.f i hi,hg.ok.t i hi⟩) (by omega) hww rfl)
   have hnew:=Qa hg.ok.ne hg.c h hww hne hnd hp0 hle;have hms:=yf (B:=1073741824) m1 (jo hnd) (fl:=w.rest) (fun i hi=>by rw[hrl];exact hlt i hi) (fun i hi=>⟨m2 i hi,hbd i (hlt i hi)⟩);have c3:=@take_at gl (d+2) w.rest.length w.rest way way 0 ⟨rfl,by omega⟩ rfl (by omega) (fun x hx=>by rw[hrl];exact hlt x hx) hne (jo hnd) (fun x hx=>by have h1:=h.ri.fb.b x (hlt x hx);have h2:=hg.c x (hlt x hx);omega);generalize lew w.rest way (nth w.rest (way.headD 0))=m at *
   generalize hrest:sbw m way w.rest=rest' at *
   have hrl':rest'.length=w.rest.length:=by rw[<-hrest,jA]
   refine⟨⟨w.ws++[way],w.num++[m],rest',w.left-m⟩,hnew,(by show msr 1073741824 rest'<_;omega),?_⟩;have hwb:w.num.length<=1000000:=by have:=h.l0;omega
   have l1:w.num.length+1<=LIM:=by unfold LIM;omega
   have l2:w.ws.length+1<=LIM:=by unfold LIM;omega
   have x1:(ns w.num++[i64 m])[w.num.length]? =some (i64 m):=by rw[List.getElem?_append_right (by rw[ae];omega),ae];simp
   have eN:List.take (w.num.length+1) (ns w.num++[i64 m])=ns w.num++[i64 m]:=wD (by rw[wB,ae];exact w3 _);simp only[oZ,wq]at hit;have b0:=h.l0;have hmb:m<=1000000:=by omega
   cases hws:w.ws with
   | nil =>simp(disch:=apply zq;omega) only[go_sem,simprocAttr,↓w1,xx,uG,lO,wsV,wsH,hws];rw[hit _ (by simp(disch:=apply zq;omega) only[go_sem,simprocAttr,↓w1,xx,jv,wsV,wsH,hws,jj,w7,w6,w8,j4,ae,us,wG,wF])];simp(disch:=apply zq;omega) only[go_sem,simprocAttr,↓w1,xx,jv,wsV,wsH,hws,ae,aj,c3,l1,l2,x1,w5];simp(disch:=apply zq;omega) only[go_sem,simprocAttr,↓w1,xx,jj,w7,w6,w8,j4,ju,u5,rOB,kq,rNE,dE,wsE,aj,hne,eN,ae,yc,hrl',w5,bO,er]
   | cons w0 ws =>
     have e9:wsE (w0::(ws++[way]))=wsE (w0::ws)++[.own (us way)]:=by simp[wsE]
     have e10:dE (wsE (w0::ws)++[.own (us way)])=[]:=by rw[<-DF];exact gx _
     have e11:∀ρ,kq ρ (wsE (w0::ws)++[.own (us way)])=wsE (w0::ws)++[.own (us way)]:=fun ρ=>by rw[<-DF];exact iG ρ _
     rw[hws]at l2;have e12:=L5 (w0::ws);simp(disch:=apply zq;omega) only[go_sem,simprocAttr,↓w1,xx,uG,lO,wsV,wsH,hws];rw[hit _ (by simp(disch:=apply zq;omega) only[go_sem,simprocAttr,↓w1,xx,jv,wsV,wsH,hws,jj,w7,w6,w8,j4,ae,us,wG,wF,lP,gx,iG,w5,rOB,bO,er])];simp(disch:=apply zq;omega) only[go_sem,simprocAttr,↓w1,xx,jv,wsV,wsH,hws,ae,aj,c3,l1,l2,x1,w5,e12];simp(disch:=apply zq;omega) only[go_sem,simprocAttr,↓w1,xx,jj,w7,w6,w8,j4,Hh,u5,rOB,aj,hne,eN,ae,yc,hrl',w5,bO,er,e9,e10,e11]
 . obtain⟨k,i,j,hc⟩:=hfin.resolve_left e1;obtain⟨t1,t2,t3,t4,c3⟩:=DN (b:=b) hg h.ri hl hw hc;have hnew:=Qb hg.ok.ne h t4 t2 t1 t3;obtain⟨m1,m2,_⟩:=q9 t2 t3;have hlt:∀x∈(a.1++[i]).drop j,x<g.a.length:=fun x hx=>iT t4 hx
   have hms:=yf (B:=1073741824) m1 t1 (fl:=w.rest) (fun i hi=>by rw[hrl];exact hlt i hi) (fun i hi=>⟨m2 i hi,hbd i (hlt i hi)⟩);obtain⟨st,h1,h2⟩:=Lh hg h.ri hl hw hc _ _ (jA ..) c3;refine⟨⟨w.ws,w.num,_,w.left⟩,hnew,Nat.lt_of_lt_of_le (Nat.lt_add_of_pos_right t2) hms,?_⟩;rw[<-h2];generalize hR:bT DD st=R;simp only[oZ,wq]at hit h1
   cases hws:w.ws with
   | nil =>simp(disch:=apply zq;omega) only[go_sem,simprocAttr,↓w1,xx,uG,lO,wsV,wsH,hws];rw[hit _ (by simp(disch:=apply zq;omega) only[go_sem,simprocAttr,↓w1,xx,jv,wsV,wsH,hws,jj,w7,w6,w8,j4,ae,us,wG,wF]),h1];simp only[pg,lI,cW,w1,if_false,if_true,hR]
   | cons w0 ws =>simp(disch:=apply zq;omega) only[go_sem,simprocAttr,↓w1,xx,uG,lO,wsV,wsH,hws];rw[hit _ (by simp(disch:=apply zq;omega) only[go_sem,simprocAttr,↓w1,xx,jv,wsV,wsH,hws,jj,w7,w6,w8,j4,ae,us,wG,wF,lP,gx,iG,w5,rOB,bO,er]),h1];simp only[pg,lI,cW,w1,if_false,if_true,hR]
end
def pathV (ws:List (List Nat))(num:List Int):AV:=if ws.isEmpty then .tup [.lst true .sc [],.sl 20000 [] 0 num.length,.int .i64 0]else .tup [.sl 20000 [] 0 ws.length,.sl 20001 [] 0 num.length,.int .i64 0]
def pathO (ws:List (List Nat))(num:List Int):List OB:=if ws.isEmpty then [.grow .sc (ns num)]else [.nest (wsE ws),.grow .sc (ns num)]
section
variable {g :Nt} {b f:Bool} {fl:List Int} {tot:Int} (hg:GOk g) (hs:∀i,i<g.a.length->(art g.a i).t≠0) (h2:2<=g.n) (hne:0<g.a.length) (hr:RI g fl tot) (ht:0<=tot/\tot<=1000000)
include hg hs h2 hne hr ht
theorem NF {d:Nat}:∃w:W4,WS g fl tot w.ws w.num w.rest w.left/\w.left=0 /\
  ∀st,bT DD st=some (lO g b ⟨[],[],fl,tot⟩)->fG (evC gl (call gl tab (d+3)) uG) DD LF st=evC gl (call gl tab (d+3)) uG (lO g b w):=by
 have ha:=hg.a;have hms:=Ch (B:=1073741824) (by decide) fl;have hfl:=hr.fb.l;have h0:WS g fl tot [] [] fl tot:={ri:=hr,ln:=rfl,ways:=(fun w h=>by cases h),pos:=(fun x h=>by cases h),len:=by simp,l0:=ht.1,dec:=fun A _ i _ _ _=>by simp[rD]};have hb:fl.length*(1073741824+1:Int).toNat<=4000*1073741825:=Nat.mul_le_mul (by omega) (by decide);obtain⟨w,hw,hf,hit⟩:=fF (f:=evC gl (call gl tab (d+3)) uG) (ks:=DD) (fun w:W4=>lO g b w) (fun w=>WS g fl tot w.ws w.num w.rest w.left) (fun w=>w.left=0) (fun w=>msr 1073741824 w.rest) (a0:=⟨[],[],fl,tot⟩) (by show msr 1073741824 fl<LF;unfold LF;omega) h0 fun w hw=>by
  by_cases hl:0<w.left
  . right;obtain⟨w',h1,h2,h3⟩:=@Ms gl d g b w fl tot hg hs h2 ht.2 hw hl;exact⟨w',h1,h2,h3⟩
  . left;have:=hw.l0;have e:w.left=0:=by omega
    refine⟨e,?_⟩
    cases hws:w.ws with
    | nil=>simp(disch:=apply zq;omega) only[go_sem,simprocAttr,↓w1,xx,uG,lO,wsV,wsH,hws,e]
    | cons w0 ws=>simp(disch:=apply zq;omega) only[go_sem,simprocAttr,↓w1,xx,uG,lO,wsV,wsH,hws,e]
 exact⟨w,hw,hf,hit⟩
set_option maxHeartbeats 2000000 in
theorem paths_at (h:5<=n):∃ws num rest,WS g fl tot ws num rest 0/\call gl tab n 63 [nV g b yA4,i64 0,i64 1,.lst f .sc (ns fl)] []=some (pathV ws num,[],pathO ws num):=by
 obtain⟨d,rfl⟩:=Nat.exists_eq_add_of_le' h;have ha:=hg.a;have hn:=hg.n;have hfl:=hr.fb.l;obtain⟨⟨ws,num,rest,left⟩,hw,e0,hit⟩:=@NF gl g b fl tot hg hs h2 hne hr ht (d+1);simp only at e0 hw;subst e0;refine⟨ws,num,rest,hw,?_⟩;have c90:=@Gz gl (d+4) g b yA4 f .sc fl hg (.inr rfl) hr.fb rfl (by omega) h2 tot ht.1 hr.gv;have c91:=@Hq gl (d+4) g b yA4 f .sc fl hg (.inr rfl) hr.fb rfl (by omega) 0 (by omega);rw[hr.gv 0]at c91;simp only[if_true,show(0:Nat)≠1 by decide,if_false,Int.sub_zero,Int.natCast_zero]at c91;have s0:=@Mt gl (d+4) g.n b g.a f fl (by omega) (by omega) hne (hg.ok.f 0 hne);have s1:=fun k hk=>@QP gl (d+4) g.n b g.a f fl (by omega) (by omega) k hk (hg.ok.f k hk)
 obtain⟨H,hz,z1,z2,z3,z4,z5⟩:=@VS g.n b g.a f fl (by omega) g.a.length rfl _ rfl;have c34:call gl tab (d+4) 34 [.lst f .sc (ns fl)] []=some (.sl 20000 [] 0 fl.length,[],[.grow .sc (ns fl)]):=by
  rw[cX (fd:=Ob) rfl rfl];have h1:fl.length<=LIM:=by unfold LIM;omega
  simp[iY,ae,h1,Sh.beq]
 have hb:js H 64 0=[]:=by rw[js,z4 _ (by unfold SHK;omega)];rfl
 have z109:=z5 109 (by omega) (by omega);have z516:=z5 5016 (by omega) (by omega);have lN:g.n<=LIM:=by unfold LIM;omega
 simp only[L63,uG,wq,O0,K63,List.cons_append,wE]at s0 s1 hz hit;rw[bf (fd:=Tc) rfl];simp(disch:=apply zq;omega) only[go_sem,simprocAttr,↓w1,xx,Tc,m63,GE,c90,c34,ae,lN];rw[aE (fun k=>if k=0 then LJ g.n b g.a f fl else T63 g.n b g.a f fl k) g.a.length (by unfold LF;omega)]
 . rw[if_neg (by omega)];rw[vQ ?_ hz]
   . simp(disch:=apply zq;omega) only[go_sem,simprocAttr,↓w1,xx,nj,z1,z2,z3,c91];rw[hit _ (by simp(disch:=apply zq;omega) only[go_sem,simprocAttr,↓w1,xx,lO,wsV,wsH,↓hb,z1,z2,z3,z109,z516,jj,w7,w6,w8,j4,ns,wG,wF])]
     cases ws with
     | nil =>simp(disch:=apply zq;omega) only[go_sem,simprocAttr,↓w1,xx,lO,wsV,wsH,ae,aj,pathV,pathO]
     | cons w0 ws =>simp(disch:=apply zq;omega) only[go_sem,simprocAttr,↓w1,xx,lO,wsV,wsH,ae,aj,gx,wE,bO,er,iG,rOB,pathV,pathO]
   . simp(disch:=apply zq;omega) only[go_sem,simprocAttr,↓w1,xx,T63,fT,nj]
 . simp(disch:=apply zq;omega) only[go_sem,simprocAttr,↓w1,xx,LJ,nj,C63,ak,mL,AV.kids,Oe,dS,Kp.keys,Kp.owns,wG,iK,w5]
 . intro i hi;rcases Nat.eq_zero_or_pos i with rfl|hi0
   . exact s0
   . rw[if_neg (by omega),if_neg (by omega)];exact s1 i hi
 . rw[if_neg (by omega)];simp(disch:=apply zq;omega) only[go_sem,simprocAttr,↓w1,xx,T63,fT,nj]
end
end Go.Proofs.S51.P
