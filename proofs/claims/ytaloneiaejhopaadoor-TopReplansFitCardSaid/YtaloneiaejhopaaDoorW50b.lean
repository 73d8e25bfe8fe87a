/-
  Flows: a network with a flow is begun. No condition.
-/
import Derived.Test.YtaloneiaejhopaaDoorW50G4x3
set_option linter.all false
open Nat renaming zero_add->wB,eq_zero_or_pos->wC
open List renaming nil_append->wD,getElem?_eq_some_iff->wE,length_set->wF,length_nil->wG,getElem?_replicate->wH,map_nil->wJ,getElem?_eq_none->wK,mem_cons->wL,ext_getElem?->wM,not_mem_nil->wN,isEmpty_iff->wO,getElem?_set_ne->wP,replicate_succ->wQ,length_append->wR,getElem?_set->wS,mem_append->wT
open Option renaming bind_some->wU,map_some->wV
namespace Go.Proofs.S50
open Go Go.Ev Go.Proofs Go.Fl
variable {gl :Gl} {n:Nat}
def L48 :MC:=match m48 with| .seq _ (.seq _ (.seq (.seq _ (.kept _ (.block _ (.loop _ b)))) _))=>b|_=>.skip
abbrev K48 :List Kp:=[.slot 5,.slot 19,.slot 20,.slot 21,.key 12,.key 15,.key 17,.fam 12 7000]
abbrev κ7 (j:Nat):Nat:=7000+j
section
variable {d N M:Nat} {b:Bool} {sh:Sh} {l:List Ar} {fl:List Int}
def fr48 (N:Nat)(b:Bool)(l:List Ar)(k:Nat):Fr:=[.set 21 (i64 (k:Int)),.set 20 (i64 (l.length:Int)),.set 19 (.lst b yA4 (rs l)),.set 5 (.ptr 17 [])]
def B48 (N:Nat)(b:Bool)(l:List Ar)(M:Nat):Hp:=[(17,.fix sNw (.aggR [.agg [i64 (N:Int),.lst b yA4 (rs l)],.sl 100000 [] 0 M,.sl 12 [] 0 N,.sl 15 [] 0 N])),(15,.grow .sc (ns (List.replicate N 0)))]
def T48 (N:Nat)(b:Bool)(l:List Ar)(fl:List Int)(M:Nat)(k:Nat):St:=fT (fr48 N b l k) [(100000,.grow .sc (ns fl))] (B48 N b l M) [] 12 N .sc κ7 (adjs l k N)
theorem g7 {k:Nat}{ls:List (List AV)}{r:Hp}(h:k<7000):Hp.get (fH .sc κ7 0 ls++r) k=Hp.get r k:=zwz fun j _ e=>by unfold κ7 at e;omega
theorem g7' {v:Nat}{ls:List (List AV)}{r:Hp}{l:List AV}(h:ls[v]? =some l)(he:l.isEmpty=false):Hp.get (fH .sc κ7 0 ls++r) (7000+v)=some (.grow .sc l):=by
 have:=zs0 (sh:=.sc) (κ:=κ7) (r:=r) (i:=0) (ls:=ls) (j:=v) (l:=l) (fun a b _ _ e=>by unfold κ7 at e;omega) h he
 rw[wB]at this;exact this
theorem e7 {v k:Nat}(h:v<N):(fE κ7 0 (adjs l k N))[v]? =some (if(us (adj l k v)).isEmpty then .lst true .sc []else .sl (7000+v) [] 0 (us (adj l k v)).length):=by
 rw[z37,zfn h,wB];rfl
theorem z07 {κ:Nat->Nat}:∀{i:Nat} {ls:List (List AV)} {k:Nat},k∈AV.refss (fE κ i ls)->∃j,nE ls i j/\k=κ j
 | i,[],k,h=>by simp[fE,AV.refss]at h
 | i,l::ls,k,h=>by
   rw[fE,AV.refss,wT]at h
   rcases h with h|h
   . cases hl:l.isEmpty with
     | true=>rw[hl]at h;simp[AV.refs]at h
     | false=>rw[hl]at h;simp[AV.refs]at h;exact⟨i,zg7 hl,h⟩
   . obtain⟨j,h1,h2⟩:=z07 h
     exact⟨j,zeg h1,h2⟩
theorem zkg {st:St}{κ:Nat->Nat}{k:Nat}(hN:N<=1000)
  (s5:st.fr.get 5= .ptr 17 []) (s19:st.fr.get 19= .lst b yA4 (rs l)) (s20:st.fr.get 20=i64 (l.length:Int)) (s21:st.fr.get 21=i64 (k:Int))
  (h17:st.hp.get 17=some (.fix sNw (.aggR [.agg [i64 (N:Int),.lst b yA4 (rs l)],.sl 100000 [] 0 M,.sl 12 [] 0 N,.sl 15 [] 0 N])))
  (h15:st.hp.get 15=some (.grow .sc (ns (List.replicate N 0)))) (h12:st.hp.get 12=some (.fix (.ar N .sc) (.aggR (fE κ 0 (adjs l k N)))))
  (hb:bigs st.hp 64 0=[.key 100000]) (h100:st.hp.get 100000=some (.grow .sc (ns fl)))
  (hget:∀v,v<N->(us (adj l k v)).isEmpty=false->st.hp.get (κ v)=some (.grow .sc (us (adj l k v))))
  (hκ:∀v,v<N->κ v=7000+v\/(17<κ v/\κ v<7000)) (hinj:∀u v,u<N->v<N->κ u=κ v->u=v) (tl:List Kp) (t1:∀hp,mvKs hp tl=[]) (t2:∀hp s,rnMv hp tl s=some s) :
  zcr ([.slot 5,.slot 19,.slot 20,.slot 21,.key 12,.key 15,.key 17]++.fam 12 7000::tl) st=zcj tl (T48 N b l fl M k):=by
 have hlt:∀j,nE (adjs l k N) 0 j->j<N/\(us (adj l k j)).isEmpty=false:=fun j ⟨m,_,h2,h3⟩=>by
  rw[Nat.sub_zero]at h2
  have h4:=(wE.1 h2).1
  rw[zbl]at h4
  rw[zfn h4]at h2
  cases h2;exact⟨h4,h3⟩
 have hk:∀j,nE (adjs l k N) 0 j->κ j∉[12,15,17,100000]:=fun j hj=>by
  have h1:=(hlt j hj).1
  have h2:=hκ j h1
  simp only[wL,wN,or_false]
  omega
 have:=zzt (st:=st) (ks0:=[.slot 5,.slot 19,.slot 20,.slot 21,.key 12,.key 15,.key 17]) (bg:=[.key 100000]) (q0:=12) (base:=7000) (N:=N) (sh:=.sc) (κ:=κ) (ls:=adjs l k N)
  (fr:=fr48 N b l k) (A:=[(100000,.grow .sc (ns fl))]) (B:=B48 N b l M) (C:=[]) (X:=[12,15,17,100000])
  rfl rfl rfl (by simp[zfy,zka,s5,s19,s20,s21,h17,h15,h12,fr48,B48]) hb (fun s=>by simp[zfy,zka,h100]) rfl rfl
  (by decide) (by decide) (fun k hk=>by
    simp only[Kp.slotRefs,s5,s19,s20,s21,h12,h15,h17,h100,zk9,zdd,AV.refs,AV.refss,List.append_nil,wD,wT,wL,wN,or_false,Kp.keys]at hk ⊢
    rcases hk with hk|hk
    . left;omega
    . rcases hk with hk|hk
      . exact .inr (z07 hk)
      . left;omega) (fun s=>rfl) (fun s=>rfl) h12 (fun j m h1 h2=>by
    have h4:=(wE.1 h1).1
    rw[zbl]at h4
    rw[zfn h4]at h1
    cases h1
    exact hget j h4 h2) (by decide) (by simp[okF,fr48,AV.refs]) (by simp[okH,zdd]) (by simp[okH,B48,zdd,AV.refs,AV.refss]) rfl
  (fun x hx j hj=>by
    rw[zbl]at hj
    simp only[wL,wN,or_false]at hx
    omega) (by rw[zbl];unfold SHK;omega) (fun j hj=>by have:=hκ j (hlt j hj).1;omega) hk (fun a b ha hb e=>hinj a b (hlt a ha).1 (hlt b hb).1 e) tl t1 t2
 exact this
theorem g8 {k k':Nat}{r:Hp}(hN:N<=1000)(h:8000<=k'):Hp.get (fH .sc κ7 0 (adjs l k N)++r) k'=Hp.get r k':=zwz fun j hj e=>by
 obtain⟨m,_,h2,h3⟩:=hj
 have h4:=(wE.1 h2).1
 rw[zbl]at h4
 unfold κ7 at e;omega
def κ8 (f t v:Nat):Nat:=if v=f then 42 else if v=t then 60 else 7000+v
theorem κ8_b {f t v:Nat}:κ8 f t v=7000+v\/(17<κ8 f t v/\κ8 f t v<7000):=by
 unfold κ8
 by_cases h:v=f
 . rw[if_pos h];omega
 . rw[if_neg h]
   by_cases h:v=t
   . rw[if_pos h];omega
   . rw[if_neg h];omega
theorem κ8_i {f t u v:Nat}(e:κ8 f t u=κ8 f t v):u=v:=by
 unfold κ8 at e
 by_cases h1:u=f
 . rw[if_pos h1]at e
   by_cases h2:v=f
   . omega
   . rw[if_neg h2]at e
     by_cases h3:v=t
     . rw[if_pos h3]at e;omega
     . rw[if_neg h3]at e;omega
 . rw[if_neg h1]at e
   by_cases h2:u=t
   . rw[if_pos h2]at e
     by_cases h3:v=f
     . rw[if_pos h3]at e;omega
     . rw[if_neg h3]at e
       by_cases h4:v=t
       . omega
       . rw[if_neg h4]at e;omega
   . rw[if_neg h2]at e
     by_cases h3:v=f
     . rw[if_pos h3]at e;omega
     . rw[if_neg h3]at e
       by_cases h4:v=t
       . rw[if_pos h4]at e;omega
       . rw[if_neg h4]at e;omega
theorem qae {k f t:Nat}(hf:(art l k).f=f)(ht:(art l k).t=t)(hfN:f<N)(htN:t<N) :
  fE (κ8 f t) 0 (adjs l (k+1) N)=((fE κ7 0 (adjs l k N)).set f (.sl 42 [] 0 ((us (adj l k f)).length+1))).set t (if f=t then .sl 42 [] 0 ((us (adj l k f)).length+1)else .sl 60 [] 0 ((us (adj l k t)).length+1)):=by
 refine wM fun v=> ?_
 rw[z37,wS,wS,wF,zhd,zbl,wB]
 by_cases hv:v<N
 . rw[zfn hv,wV,adj,hf,ht]
   by_cases e1:v=f
   . subst e1
     rw[if_pos (Or.inl rfl),zkq,κ8,if_pos rfl,wR,if_neg (by simp)]
     by_cases e2:t=v
     . subst e2;simp[hv]
     . rw[if_neg e2,if_pos rfl,if_pos hv];rfl
   . by_cases e2:v=t
     . subst e2
       rw[if_pos (Or.inr rfl),zkq,κ8,if_neg e1,if_pos rfl,wR,if_neg (by simp),if_pos rfl,if_pos hv,if_neg (show ¬f=v from fun e=>e1 e.symm)];rfl
     . rw[if_neg (show ¬(f=v\/t=v)from fun h=>h.elim (fun h=>e1 h.symm) fun h=>e2 h.symm),if_neg (show ¬t=v from fun e=>e2 e.symm),if_neg (show ¬f=v from fun e=>e1 e.symm),e7 hv]
       unfold κ8;rw[if_neg e1,if_neg e2]
 . have e1:(adjs l (k+1) N)[v]? =none:=by rw[wK];rw[zbl];omega
   have e2:(fE κ7 0 (adjs l k N))[v]? =none:=by rw[wK];rw[zhd,zbl];omega
   rw[e1,e2,if_neg (by omega),if_neg (by omega)];rfl
set_option maxHeartbeats 4000000 in
theorem qgc (hN:N<=1000)(hM:l.length<=10000){k:Nat}(hk:k<l.length)(hf:(art l k).f<N)(ht:(art l k).t<N)(hne:(art l k).f≠(art l k).t) :
  zaz K48 (evC gl (call gl tab d) L48 (T48 N b l fl M k))=some (T48 N b l fl M (k+1)):=by
 have hx:=zix hk
 have ef:=e7 (l:=l) (k:=k) hf
 have et:=e7 (l:=l) (k:=k) ht
 have gf:=fun r h=>g7' (r:=r) (zfn (a:=l) (k:=k) hf) h
 have gt:=fun r h=>g7' (r:=r) (zfn (a:=l) (k:=k) ht) h
 have lf:=zhd κ7 0 (adjs l k N)
 rw[zbl]at lf
 have n1:∀v,(17==7000+v)=false:=fun v=>by rw[beq_eq_false_iff_ne];omega
 have n2:∀v,(7==7000+v)=false:=fun v=>by rw[beq_eq_false_iff_ne];omega
 have l1:1<=LIM:=by unfold LIM;omega
 have es:∀v,((fE κ7 0 (adjs l k N)).set (art l k).f v)[(art l k).t]? =(fE κ7 0 (adjs l k N))[(art l k).t]? :=fun v=>by rw[wP hne]
 have b1:=znb l (art l k).f k
 have b2:=znb l (art l k).t k
 have tk:∀(u:List AV) (v:AV),(u++[v]).take (u.length+1)=u++[v]:=fun u v=>List.take_of_length_le (by simp)
 rw[<-zao]at b1 b2
 generalize hE:evC gl (call gl tab d) L48 (T48 N b l fl M k)=r
 generalize huf:us (adj l k (art l k).f)=uf at *
 generalize hut:us (adj l k (art l k).t)=ut at *
 have l2:uf.length+1<=LIM:=by unfold LIM;omega
 have l3:ut.length+1<=LIM:=by unfold LIM;omega
 have us1:us (adj l (k+1) (art l k).f)=uf++[i64 (k:Int)]:=by rw[adj,if_pos (Or.inl rfl),zkq,huf]
 have us2:us (adj l (k+1) (art l k).t)=ut++[i64 (k:Int)]:=by rw[adj,if_pos (Or.inr rfl),zkq,hut]
 have us3:∀v,v≠(art l k).f->v≠(art l k).t->adj l (k+1) v=adj l k v:=fun v h1 h2=>by rw[adj,if_neg (fun h=>h.elim (fun h=>h1 h.symm) fun h=>h2 h.symm)]
 have eF:=qae (N:=N) (l:=l) (k:=k) rfl rfl hf ht
 rw[if_neg hne,huf,hut]at eF
 have hget:∀v,v<N->v≠(art l k).f->v≠(art l k).t->∀r,(us (adj l k v)).isEmpty=false->Hp.get (fH .sc κ7 0 (adjs l k N)++r) (7000+v)=some (.grow .sc (us (adj l k v))):=fun v hv _ _ r h=>g7' (zfn hv) h
 cases h1:uf.isEmpty with
 | true =>
   obtain rfl:=wO.1 h1
   rw[if_pos h1]at ef
   cases h2:ut.isEmpty with
   | true =>
     obtain rfl:=wO.1 h2
     rw[if_pos h2]at et
     simp(disch:=apply zq;omega) only[go_sem,simprocAttr,↓Nat.reduceEqDiff,xx,L48,m48,T48,fT,fr48,B48,zah,hx,g7,ef,et,lf,l1,es,wF,n1,n2]at hE
     subst hE
     rw[zex]
     refine zkg (κ:=κ8 (art l k).f (art l k).t) hN rfl rfl rfl rfl (by simp(disch:=apply zq;omega) only[go_sem,simprocAttr,↓Nat.reduceEqDiff,xx,g7]) (by simp(disch:=apply zq;omega) only[go_sem,simprocAttr,↓Nat.reduceEqDiff,xx,g7]) (by simp(disch:=apply zq;omega) only[go_sem,simprocAttr,↓Nat.reduceEqDiff,xx,eF,wG]) (by simp(disch:=apply zq;omega) only[go_sem,simprocAttr,↓Nat.reduceEqDiff,xx,bigs,g8]) (by simp(disch:=apply zq;omega) only[go_sem,simprocAttr,↓Nat.reduceEqDiff,xx]) (fun v hv he=> ?_) (fun v _=>κ8_b) (fun u v _ _=>κ8_i) [] (fun _=>rfl) (fun _ _=>rfl)
     by_cases e1:v=(art l k).f
     . subst e1;rw[us1];simp(disch:=apply zq;omega) only[go_sem,simprocAttr,↓Nat.reduceEqDiff,xx,κ8,wD]
     . by_cases e2:v=(art l k).t
       . subst e2;rw[us2];simp(disch:=apply zq;omega) only[go_sem,simprocAttr,↓Nat.reduceEqDiff,xx,κ8,wD]
       . rw[us3 v e1 e2]at he ⊢
         have:=hget v hv e1 e2
         unfold κ8
         rw[if_neg e1,if_neg e2]
         simp(disch:=apply zq;omega) only[go_sem,simprocAttr,↓Nat.reduceEqDiff,xx,this,he]
   | false =>
     rw[if_neg (by rw[h2];decide)]at et
     have gt:=fun r=>gt r h2
     simp(disch:=apply zq;omega) only[go_sem,simprocAttr,↓Nat.reduceEqDiff,xx,L48,m48,T48,fT,fr48,B48,zah,hx,g7,ef,et,lf,l1,es,wF,gt,l3,tk,n1,n2]at hE
     subst hE
     rw[zex]
     refine zkg (κ:=κ8 (art l k).f (art l k).t) hN rfl rfl rfl rfl (by simp(disch:=apply zq;omega) only[go_sem,simprocAttr,↓Nat.reduceEqDiff,xx,g7]) (by simp(disch:=apply zq;omega) only[go_sem,simprocAttr,↓Nat.reduceEqDiff,xx,g7]) (by simp(disch:=apply zq;omega) only[go_sem,simprocAttr,↓Nat.reduceEqDiff,xx,eF,wG]) (by simp(disch:=apply zq;omega) only[go_sem,simprocAttr,↓Nat.reduceEqDiff,xx,bigs,g8]) (by simp(disch:=apply zq;omega) only[go_sem,simprocAttr,↓Nat.reduceEqDiff,xx]) (fun v hv he=> ?_) (fun v _=>κ8_b) (fun u v _ _=>κ8_i) [] (fun _=>rfl) (fun _ _=>rfl)
     by_cases e1:v=(art l k).f
     . subst e1;rw[us1];simp(disch:=apply zq;omega) only[go_sem,simprocAttr,↓Nat.reduceEqDiff,xx,κ8,wD]
     . by_cases e2:v=(art l k).t
       . subst e2;rw[us2];simp(disch:=apply zq;omega) only[go_sem,simprocAttr,↓Nat.reduceEqDiff,xx,κ8,wD]
       . rw[us3 v e1 e2]at he ⊢
         have:=hget v hv e1 e2
         unfold κ8
         rw[if_neg e1,if_neg e2]
         simp(disch:=apply zq;omega) only[go_sem,simprocAttr,↓Nat.reduceEqDiff,xx,this,he]
 | false =>
   rw[if_neg (by rw[h1];decide)]at ef
   have gf:=fun r=>gf r h1
   cases h2:ut.isEmpty with
   | true =>
     obtain rfl:=wO.1 h2
     rw[if_pos h2]at et
     simp(disch:=apply zq;omega) only[go_sem,simprocAttr,↓Nat.reduceEqDiff,xx,L48,m48,T48,fT,fr48,B48,zah,hx,g7,ef,et,lf,l1,es,wF,gf,l2,tk,n1,n2]at hE
     subst hE
     rw[zex]
     refine zkg (κ:=κ8 (art l k).f (art l k).t) hN rfl rfl rfl rfl (by simp(disch:=apply zq;omega) only[go_sem,simprocAttr,↓Nat.reduceEqDiff,xx,g7]) (by simp(disch:=apply zq;omega) only[go_sem,simprocAttr,↓Nat.reduceEqDiff,xx,g7]) (by simp(disch:=apply zq;omega) only[go_sem,simprocAttr,↓Nat.reduceEqDiff,xx,eF,wG]) (by simp(disch:=apply zq;omega) only[go_sem,simprocAttr,↓Nat.reduceEqDiff,xx,bigs,g8]) (by simp(disch:=apply zq;omega) only[go_sem,simprocAttr,↓Nat.reduceEqDiff,xx]) (fun v hv he=> ?_) (fun v _=>κ8_b) (fun u v _ _=>κ8_i) [] (fun _=>rfl) (fun _ _=>rfl)
     by_cases e1:v=(art l k).f
     . subst e1;rw[us1];simp(disch:=apply zq;omega) only[go_sem,simprocAttr,↓Nat.reduceEqDiff,xx,κ8,wD]
     . by_cases e2:v=(art l k).t
       . subst e2;rw[us2];simp(disch:=apply zq;omega) only[go_sem,simprocAttr,↓Nat.reduceEqDiff,xx,κ8,wD]
       . rw[us3 v e1 e2]at he ⊢
         have:=hget v hv e1 e2
         unfold κ8
         rw[if_neg e1,if_neg e2]
         simp(disch:=apply zq;omega) only[go_sem,simprocAttr,↓Nat.reduceEqDiff,xx,this,he]
   | false =>
     rw[if_neg (by rw[h2];decide)]at et
     have gt:=fun r=>gt r h2
     simp(disch:=apply zq;omega) only[go_sem,simprocAttr,↓Nat.reduceEqDiff,xx,L48,m48,T48,fT,fr48,B48,zah,hx,g7,ef,et,lf,l1,es,wF,gf,gt,l2,l3,tk,n1,n2]at hE
     subst hE
     rw[zex]
     refine zkg (κ:=κ8 (art l k).f (art l k).t) hN rfl rfl rfl rfl (by simp(disch:=apply zq;omega) only[go_sem,simprocAttr,↓Nat.reduceEqDiff,xx,g7]) (by simp(disch:=apply zq;omega) only[go_sem,simprocAttr,↓Nat.reduceEqDiff,xx,g7]) (by simp(disch:=apply zq;omega) only[go_sem,simprocAttr,↓Nat.reduceEqDiff,xx,eF,wG]) (by simp(disch:=apply zq;omega) only[go_sem,simprocAttr,↓Nat.reduceEqDiff,xx,bigs,g8]) (by simp(disch:=apply zq;omega) only[go_sem,simprocAttr,↓Nat.reduceEqDiff,xx]) (fun v hv he=> ?_) (fun v _=>κ8_b) (fun u v _ _=>κ8_i) [] (fun _=>rfl) (fun _ _=>rfl)
     by_cases e1:v=(art l k).f
     . subst e1;rw[us1];simp(disch:=apply zq;omega) only[go_sem,simprocAttr,↓Nat.reduceEqDiff,xx,κ8,wD]
     . by_cases e2:v=(art l k).t
       . subst e2;rw[us2];simp(disch:=apply zq;omega) only[go_sem,simprocAttr,↓Nat.reduceEqDiff,xx,κ8,wD]
       . rw[us3 v e1 e2]at he ⊢
         have:=hget v hv e1 e2
         unfold κ8
         rw[if_neg e1,if_neg e2]
         simp(disch:=apply zq;omega) only[go_sem,simprocAttr,↓Nat.reduceEqDiff,xx,this,he]
def T480 (N:Nat)(b:Bool)(l:List Ar)(fl:List Int)(M:Nat):St:=⟨fr48 N b l 0,(100000,.grow .sc (ns fl))::(B48 N b l M++[(12,.fix (.ar N .sc) (.agg (List.replicate N (.lst true .sc []))))])⟩
theorem qbb (hN:N<=1000)(hM:l.length<=10000)(hk:0<l.length)(hf:(art l 0).f<N)(ht:(art l 0).t<N)(hne:(art l 0).f≠(art l 0).t) :
  zaz K48 (evC gl (call gl tab d) L48 (T480 N b l fl M))=some (T48 N b l fl M 1):=by
 have hx:=zix hk
 have l1:1<=LIM:=by unfold LIM;omega
 have ef:(List.replicate N (AV.lst true .sc []))[(art l 0).f]? =some (.lst true .sc []):=by rw[wH,if_pos hf]
 have et:∀v,((List.replicate N (AV.lst true .sc [])).set (art l 0).f v)[(art l 0).t]? =some (.lst true .sc []):=fun v=>by rw[wP hne,wH,if_pos ht]
 generalize hE:evC gl (call gl tab d) L48 (T480 N b l fl M)=r
 simp(disch:=apply zq;omega) only[go_sem,simprocAttr,↓Nat.reduceEqDiff,xx,L48,m48,T480,fr48,B48,zah,hx,ef,et,l1,wF,List.length_replicate]at hE
 have eF:=qae (N:=N) (l:=l) (k:=0) rfl rfl hf ht
 have e0:fE κ7 0 (adjs l 0 N)=List.replicate N (.lst true .sc []):=by
  refine wM fun v=> ?_
  rw[wH]
  split
  . rename_i h;rw[e7 h];rfl
  . rw[wK];rw[zhd,zbl];omega
 rw[if_neg hne,e0]at eF
 subst hE
 rw[zex]
 refine zkg (κ:=κ8 (art l 0).f (art l 0).t) hN rfl rfl rfl rfl (by simp(disch:=apply zq;omega) only[go_sem,simprocAttr,↓Nat.reduceEqDiff,xx]) (by simp(disch:=apply zq;omega) only[go_sem,simprocAttr,↓Nat.reduceEqDiff,xx]) (by simp(disch:=apply zq;omega) only[go_sem,simprocAttr,↓Nat.reduceEqDiff,xx,eF,adj,us,wJ,wG]) (by simp(disch:=apply zq;omega) only[go_sem,simprocAttr,↓Nat.reduceEqDiff,xx,bigs]) (by simp(disch:=apply zq;omega) only[go_sem,simprocAttr,↓Nat.reduceEqDiff,xx]) (fun v hv he=> ?_) (fun v _=>κ8_b) (fun u v _ _=>κ8_i) [] (fun _=>rfl) (fun _ _=>rfl)
 by_cases e1:v=(art l 0).f
 . subst e1;simp(disch:=apply zq;omega) only[go_sem,simprocAttr,↓Nat.reduceEqDiff,xx,κ8,adj,zkq,us,wJ,wD,true_or,if_true]
 . by_cases e2:v=(art l 0).t
   . subst e2;simp(disch:=apply zq;omega) only[go_sem,simprocAttr,↓Nat.reduceEqDiff,xx,κ8,adj,zkq,us,wJ,wD,or_true,if_true,if_neg e1]
   . rw[show adj l (0+1) v=[] by rw[adj,if_neg (fun h=>h.elim (fun h=>e1 h.symm) fun h=>e2 h.symm)];rfl]at he
     cases he
theorem z36 {k v:Nat}(h:v∈fKs κ7 0 (adjs l k N)):7000<=v/\v<7000+N:=by
 obtain⟨j,⟨m,_,h2,_⟩,rfl⟩:=z35.1 h
 have h4:=(wE.1 h2).1
 rw[zbl]at h4
 unfold κ7;omega
def ntV (N:Nat)(b:Bool)(l:List Ar)(k M:Nat):AV:=.aggR [.agg [i64 (N:Int),.lst b yA4 (rs l)],.sl 100000 [] 0 M,.lst false .sc ((adjs l k N).map (lV .sc)),.sl 15 [] 0 N]
theorem qle {k:Nat}(hN:N<=1000):∃H:Hp,zcj [.frz 17 [2]] (T48 N b l fl M k)=some ⟨fr48 N b l k,H⟩/\H.get 17=some (.fix sNw (ntV N b l k M))/\H.get 15=some (.grow .sc (ns (List.replicate N 0)))/\H.get 100000=some (.grow .sc (ns fl))/\H.get 100001=none:=by
 have g12:Hp.get (T48 N b l fl M k).hp 12=some (.fix (.ar N .sc) (.aggR (fE κ7 0 (adjs l k N)))):=by simp(disch:=apply zq;omega) only[go_sem,simprocAttr,↓Nat.reduceEqDiff,xx,T48,fT,B48,g7]
 have g17:Hp.get (T48 N b l fl M k).hp 17=some (.fix sNw (.aggR [.agg [i64 (N:Int),.lst b yA4 (rs l)],.sl 100000 [] 0 M,.sl 12 [] 0 N,.sl 15 [] 0 N])):=by simp(disch:=apply zq;omega) only[go_sem,simprocAttr,↓Nat.reduceEqDiff,xx,T48,fT,B48,g7]
 have g15:Hp.get (T48 N b l fl M k).hp 15=some (.grow .sc (ns (List.replicate N 0))):=by simp(disch:=apply zq;omega) only[go_sem,simprocAttr,↓Nat.reduceEqDiff,xx,T48,fT,B48,g7]
 have g10:Hp.get (T48 N b l fl M k).hp 100000=some (.grow .sc (ns fl)):=by simp(disch:=apply zq;omega) only[go_sem,simprocAttr,↓Nat.reduceEqDiff,xx,T48,fT]
 have g11:Hp.get (T48 N b l fl M k).hp 100001=none:=by simp(disch:=apply zq;omega) only[go_sem,simprocAttr,↓Nat.reduceEqDiff,xx,T48,fT,B48,g8]
 have hz:zjg (T48 N b l fl M k).hp (fE κ7 0 (adjs l k N))=some ((adjs l k N).map (lV .sc),fKs κ7 0 (adjs l k N)):=zw3 fun j m h1 h2=>by
  rw[wB]
  have:=g7' (r:=B48 N b l M++((12,.fix (.ar N .sc) (.aggR (fE κ7 0 (adjs l k N))))::[])) h1 h2
  have hj:j<N:=by
   have h4:=(wE.1 h1).1
   rwa [zbl]at h4
  show Hp.get ((100000,_)::(fH .sc κ7 0 (adjs l k N)++(B48 N b l M++((12,_)::[])))) (7000+j)=_
  rw[zeb,if_neg (by omega),this]
 have hc:(12::fKs κ7 0 (adjs l k N)).contains 17=false:=by
  rw[<-Bool.not_eq_true,List.contains_iff_mem,wL]
  rintro (h|h)
  . omega
  . have:=z36 h;omega
 have ha:(fKs κ7 0 (adjs l k N)).all (fun j=>decide (j<SHK))=true:=by
  rw[List.all_eq_true]
  intro j hj
  have:=z36 hj
  exact decide_eq_true (by unfold SHK;omega)
 have gd:∀r k',k'≠12->k'<7000\/8000<=k'->Hp.get (zik (12::fKs κ7 0 (adjs l k N))++r) k'=Hp.get r k':=fun r k' h1 h2=>zs1 fun h=>by
  rw[wL]at h
  rcases h with h|h
  . exact h1 h
  . have:=z36 h;omega
 refine⟨(17,.fix sNw (ntV N b l k M))::(zik (12::fKs κ7 0 (adjs l k N))++(T48 N b l fl M k).hp),?_,rfl,?_,?_,?_⟩
 . have:frz1 (T48 N b l fl M k) 17 [2]=some ⟨fr48 N b l k,(17,.fix sNw (ntV N b l k M))::(zik (12::fKs κ7 0 (adjs l k N))++(T48 N b l fl M k).hp)⟩:=by
    have hn:(AV.aggR [.agg [i64 (N:Int),.lst b yA4 (rs l)],.sl 100000 [] 0 M,.sl 12 [] 0 N,.sl 15 [] 0 N]).nav [2]=some (.sl 12 [] 0 N):=rfl
    have hs:sNw.sub [2]=some .sc:=rfl
    have hd:decide (12<SHK)=true:=by decide
    have hst:(AV.aggR [.agg [i64 (N:Int),.lst b yA4 (rs l)],.sl 100000 [] 0 M,.sl 12 [] 0 N,.sl 15 [] 0 N]).setNav [2] (.lst false .sc ((adjs l k N).map (lV .sc)))=some (ntV N b l k M):=rfl
    unfold frz1
    rw[g17]
    simp only[hn,hs,g12,AV.kids,hz,wU,hc,ha,hd,hst,wV,beq_self_eq_true,Bool.not_false,Bool.and_true,if_true,decide_true]
    rfl
   rw[zcj,this];rfl
 . rw[zeb,if_neg (by omega),gd _ _ (by omega) (by omega)];exact g15
 . rw[zeb,if_neg (by omega),gd _ _ (by omega) (by omega)];exact g10
 . rw[zeb,if_neg (by omega),gd _ _ (by omega) (by omega)];exact g11
theorem famR (N:Nat):∀b,famL b (List.replicate N (AV.lst true .sc []))=[]:=by
 induction N with
 | zero=>exact fun _=>rfl
 | succ N ih=>intro b;rw[wQ,famL,ih];rfl
theorem frzR (hp:Hp):∀N,zjg hp (List.replicate N (AV.lst true .sc []))=some (List.replicate N (AV.lst true .sc []),[])
 | 0=>rfl
 | N+1=>by rw[wQ,zjg,frzR hp N];rfl
theorem z2m {ks:List Kp}{x:Option (Ex×St)}{st st':St}(h:x=some (.norm,st))(hc:zcr ks st=some st'):z7j ks x=some (.norm,st'):=by
 subst h;exact zn7 hc
theorem qlg (hN:N<=1000){k:Nat}(hk:k=l.length):∃H:Hp,zcr ([.slot 5,.slot 19,.slot 20,.slot 21,.key 12,.key 15,.key 17]++.fam 12 7000::[.frz 17 [2]]) ⟨.set 22 (.bool false)::fr48 N b l k,(T48 N b l fl M k).hp⟩=some ⟨fr48 N b l k,H⟩/\H.get 17=some (.fix sNw (ntV N b l k M))/\H.get 15=some (.grow .sc (ns (List.replicate N 0)))/\H.get 100000=some (.grow .sc (ns fl))/\H.get 100001=none:=by
 obtain⟨H,hz,h1⟩:=@qle N M b l fl k hN
 refine⟨H,?_,h1⟩
 rw[<-hz]
 refine zkg (κ:=κ7) hN rfl rfl rfl rfl (by simp(disch:=apply zq;omega) only[go_sem,simprocAttr,↓Nat.reduceEqDiff,xx,T48,fT,B48,g7]) (by simp(disch:=apply zq;omega) only[go_sem,simprocAttr,↓Nat.reduceEqDiff,xx,T48,fT,B48,g7]) (by simp(disch:=apply zq;omega) only[go_sem,simprocAttr,↓Nat.reduceEqDiff,xx,T48,fT,B48,g7]) (by simp(disch:=apply zq;omega) only[go_sem,simprocAttr,↓Nat.reduceEqDiff,xx,bigs,T48,fT,B48,g8]) (by simp(disch:=apply zq;omega) only[go_sem,simprocAttr,↓Nat.reduceEqDiff,xx,T48,fT,B48,g7]) (fun v hv he=> ?_) (fun v _=>.inl rfl) (fun u v _ _ e=>by unfold κ7 at e;omega) [.frz 17 [2]] (fun _=>rfl) (fun _ _=>rfl)
 have:=g7' (r:=B48 N b l M++((12,.fix (.ar N .sc) (.aggR (fE κ7 0 (adjs l k N))))::[])) (zfn (a:=l) (k:=k) hv) he
 show Hp.get ((100000,_)::(fH .sc κ7 0 (adjs l k N)++(B48 N b l M++((12,_)::[])))) (7000+v)=_
 rw[zeb,if_neg (by omega),this]
set_option maxHeartbeats 4000000 in
theorem z9d (hn:1<=n)(hN:N<=1000)(hM:l.length<=10000)(hsh:l=[]\/sh=yA4)(hf:∀k,k<l.length->(art l k).f<N)(ht:∀k,k<l.length->(art l k).t<N)(hne:∀k,k<l.length->(art l k).f≠(art l k).t) :
  call gl tab n 48 [.agg [i64 (N:Int),.lst b sh (rs l)],.sl 100000 [] 0 M] [(100000,.grow .sc (ns fl))] =
   some (.ptr 20000 [],[(100000,.grow .sc (ns fl))],[.fix sNw (.aggR [.agg [i64 (N:Int),.lst b sh (rs l)],.sl 100000 [] 0 M,.lst false .sc ((adjs l l.length N).map (lV .sc)),.sl 20001 [] 0 N]),.grow .sc (ns (List.replicate N 0))]):=by
 obtain⟨d,rfl⟩:=Nat.exists_eq_add_of_le' hn
 have hl:N<=LIM:=by unfold LIM;omega
 have hr:List.replicate N (i64 0)=ns (List.replicate N 0):=z1s N 0
 rw[zbo (fd:=fd48) rfl]
 rcases wC l.length with h0|h0
 . obtain rfl:=List.length_eq_zero_iff.1 h0
   have e1:(adjs [] 0 N).map (lV .sc)=List.replicate N (.lst true .sc []):=by
    refine wM fun v=> ?_
    rw[wH,List.getElem?_map]
    split
    . rename_i h;rw[zfn h];rfl
    . rw[wK (by rw[zbl];omega)];rfl
   have e2:=fun hp=>frzR hp N
   simp(disch:=apply zq;omega) only[go_sem,simprocAttr,↓Nat.reduceEqDiff,xx,fd48,m48,rs,wJ,wG,hl,hr,e1]
   rw[zak (fun k=>⟨[.set 21 (i64 0),.set 20 (i64 0),.set 19 (.lst b sh []),.set 5 (.ptr 17 [])],[(100000,.grow .sc (ns fl)),(17,.fix sNw (.aggR [.agg [i64 (N:Int),.lst b sh []],.sl 100000 [] 0 M,.sl 12 [] 0 N,.sl 15 [] 0 N])),(15,.grow .sc (ns (List.replicate N 0))),(12,.fix (.ar N .sc) (.agg (List.replicate N (.lst true .sc []))))]⟩) 0 (by unfold LF;omega)]
   . have hc:zcr [.slot 5,.slot 19,.slot 20,.slot 21,.key 12,.key 15,.key 17,.fam 12 7000,.frz 17 [2]] ⟨[.set 22 (.bool false),.set 21 (i64 0),.set 20 (i64 0),.set 19 (.lst b sh []),.set 5 (.ptr 17 [])],[(100000,.grow .sc (ns fl)),(17,.fix sNw (.aggR [.agg [i64 (N:Int),.lst b sh []],.sl 100000 [] 0 M,.sl 12 [] 0 N,.sl 15 [] 0 N])),(15,.grow .sc (ns (List.replicate N 0))),(12,.fix (.ar N .sc) (.agg (List.replicate N (.lst true .sc []))))]⟩ =
       some ⟨[.set 21 (i64 0),.set 20 (i64 0),.set 19 (.lst b sh []),.set 5 (.ptr 17 [])],[(17,.fix sNw (.aggR [.agg [i64 (N:Int),.lst b sh []],.sl 100000 [] 0 M,.lst false .sc (List.replicate N (.lst true .sc [])),.sl 15 [] 0 N])),(12,.dead),(100000,.grow .sc (ns fl)),(17,.fix sNw (.aggR [.agg [i64 (N:Int),.lst b sh []],.sl 100000 [] 0 M,.sl 12 [] 0 N,.sl 15 [] 0 N])),(15,.grow .sc (ns (List.replicate N 0))),(12,.fix (.ar N .sc) (.agg (List.replicate N (.lst true .sc []))))]⟩:=by
      simp(disch:=apply zq;omega) only[go_sem,simprocAttr,↓Nat.reduceEqDiff,xx,zqq,AV.kids,famR,ze5,Kp.keys,Kp.owns,wJ,zjy,wU,e2]
     simp(disch:=apply zq;omega) only[go_sem,simprocAttr,↓Nat.reduceEqDiff,xx]
     rw[zn7 hc]
     simp(disch:=apply zq;omega) only[go_sem,simprocAttr,↓Nat.reduceEqDiff,xx]
   . simp(disch:=apply zq;omega) only[go_sem,simprocAttr,↓Nat.reduceEqDiff,xx,zqq,AV.kids,famR,ze5,Kp.keys,Kp.owns,wJ,zjy,wU]
   . intro i hi;omega
   . simp(disch:=apply zq;omega) only[go_sem,simprocAttr,↓Nat.reduceEqDiff,xx]
 . have hsh:sh=yA4:=hsh.resolve_left (fun e=>by rw[e]at h0;simp at h0)
   subst hsh
   have h1:=@qbb gl d N M b l fl hN hM h0 (hf 0 h0) (ht 0 h0) (hne 0 h0)
   have hs:=fun k hk=>@qgc gl d N M b l fl hN hM k hk (hf k hk) (ht k hk) (hne k hk)
   obtain⟨H,hz,z1,z2,z3,z4⟩:=@qlg N M b l fl hN l.length rfl
   simp only[List.cons_append,wD]at hz
   simp only[L48,m48,K48]at h1 hs
   simp(disch:=apply zq;omega) only[go_sem,simprocAttr,↓Nat.reduceEqDiff,xx,fd48,m48,zah,hl,hr]
   rw[zak (fun k=>if k=0 then T480 N b l fl M else T48 N b l fl M k) l.length (by unfold LF;omega)]
   . rw[if_neg (by omega)]
     rw[z2m ?_ hz]
     . simp(disch:=apply zq;omega) only[go_sem,simprocAttr,↓Nat.reduceEqDiff,xx,fr48,z1,z2,z3,z4,ntV]
     . simp(disch:=apply zq;omega) only[go_sem,simprocAttr,↓Nat.reduceEqDiff,xx,T48,fT,fr48]
   . simp(disch:=apply zq;omega) only[go_sem,simprocAttr,↓Nat.reduceEqDiff,xx,T480,fr48,B48,zqq,AV.kids,famR,ze5,Kp.keys,Kp.owns,wJ,zjy,wU]
   . intro i hi
     rcases wC i with rfl|hi0
     . exact h1
     . rw[if_neg (by omega),if_neg (by omega)];exact hs i hi
   . rw[if_neg (by omega)]
     simp(disch:=apply zq;omega) only[go_sem,simprocAttr,↓Nat.reduceEqDiff,xx,T48,fT,fr48]
end
end Go.Proofs.S50
