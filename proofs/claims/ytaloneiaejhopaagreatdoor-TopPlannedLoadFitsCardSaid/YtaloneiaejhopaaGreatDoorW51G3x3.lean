/-
  Purses with no coin, and with one. No condition.
-/
import Derived.Test.YtaloneiaejhopaaGreatDoorW51G1x3
import Derived.Test.YtaloneiaejhopaaGreatDoorW51G2x3
set_option linter.all false
open Nat renaming reduceEqDiff->wB,exists_eq_add_of_le'->wC,zero_add->wD,eq_zero_or_pos->wE
open List renaming nil_append->wF,getElem?_eq_some_iff->wG,length_set->wH,length_nil->wJ,getElem?_replicate->wK,map_nil->wM,getElem?_eq_none->wN,mem_cons->wO,ext_getElem?->wP,not_mem_nil->wQ,isEmpty_iff->wR,getElem?_set_ne->wS,replicate_succ->wT,length_append->wU,getElem?_set->wW,mem_append->wX
open Option renaming bind_some->wY,map_some->wZ
namespace Go.Proofs.S51
open Go Go.Ev Go.Proofs
variable {gl :Gl} {n:Nat}
theorem Ho (h:1<=n){a lo hi:Int}(h1:lo<=a)(h2:a<=hi):call gl tab n 48 [i64 a,i64 lo,i64 hi] []=some (.bool true,[],[]):=by rw[C.within_at h a lo hi,decide_eq_true h1,decide_eq_true h2];rfl
theorem Pt (h:2<=n){a:Int}(h1:0<=a)(h2:a<=1099511627776):call gl tab n 46 [i64 a] []=some (.bool true,[],[]):=by rw[C.isWindow_at h a,decide_eq_true h1,decide_eq_true h2];rfl
abbrev coV (w g s:Int):AV:=.agg [i64 w,i64 g,i64 s,i64 0]
abbrev wa0 :AV:=.agg [i64 1000,.lst true .sc []]
abbrev wa1 (w g s:Int):AV:=.agg [i64 1000,.lst false yA4 [coV w g s]]
def zr (x:AV)(N:Nat)(w:Int)(i:Nat):St:=⟨[.set 9 (i64 (i:Int)),.set 8 (i64 (N:Int)),.set 7 x,.set 3 (i64 (if i=0 then -1 else w)),.set 1 (.ptr 1 [])],[(1,.fix (.st [.sc,.sc]) (.agg [i64 1000,x]))]⟩
theorem vp0 (h:3<=n):call gl tab n 42 [wa0] []=some (.bool true,[],[]):=by
 obtain⟨d,rfl⟩:=wC h;have c:=fun a lo hi (h1:lo<=a) (h2:a<=hi)=>@Ho gl (d+2) (by omega) a lo hi h1 h2
 rw[au (fd:=Kt) rfl];simp(disch:=apply zq;omega) only[go_sem,simprocAttr,↓wB,xx,Kt,m42,c];rw[aE (zr (.lst true .sc []) 0 0) 0 (by unfold LF;omega)]
 . simp(disch:=apply zq;omega) only[go_sem,simprocAttr,↓wB,xx,zr,c]
 . simp(disch:=apply zq;omega) only[go_sem,simprocAttr,↓wB,xx,zr]
 . intro i hi;omega
 . simp(disch:=apply zq;omega) only[go_sem,simprocAttr,↓wB,xx,zr]
section
variable {w g s:Int} (hw:0<=w/\w<=1099511627776) (hg:0<=g/\g<=1099511627776) (hs:0<=s/\s<=g)
include hw hg hs
theorem vp1 (h:3<=n):call gl tab n 42 [wa1 w g s] []=some (.bool true,[],[]):=by
 obtain⟨d,rfl⟩:=wC h;have c:=fun a lo hi (h1:lo<=a) (h2:a<=hi)=>@Ho gl (d+2) (by omega) a lo hi h1 h2
 have c2:=@Pt gl (d+2) (by omega) w hw.1 hw.2;rw[au (fd:=Kt) rfl];simp(disch:=apply zq;omega) only[go_sem,simprocAttr,↓wB,xx,Kt,m42,c];rw[aE (zr (.lst false yA4 [coV w g s]) 1 w) 1 (by unfold LF;omega)]
 . simp(disch:=apply zq;omega) only[go_sem,simprocAttr,↓wB,xx,zr,c]
 . simp(disch:=apply zq;omega) only[go_sem,simprocAttr,↓wB,xx,zr]
 . intro i hi;obtain rfl:i=0:=by omega
   simp(disch:=apply zq;omega) only[go_sem,simprocAttr,↓wB,xx,zr,c,c2]
 . simp(disch:=apply zq;omega) only[go_sem,simprocAttr,↓wB,xx,zr]
end
theorem V4 (h:3<=n)(w g s g' s':Int):call gl tab n 73 [coV w g s,coV w g' s'] []=some (i64 0,[],[]):=by obtain⟨d,rfl⟩:=wC h;have c:=@C.cmp_at gl (d+2) (by omega) w w;rw[show C.cmpI w w=0 by unfold C.cmpI;simp]at c;rw[au (fd:=S3) rfl];simp(disch:=apply zq;omega) only[go_sem,simprocAttr,↓wB,xx,S3,m73,c]
def S07 (x k:AV)(N j:Nat):St:=⟨[.set 10 (i64 (j:Int)),.set 9 (i64 0),.set 8 (i64 (N:Int)),.set 4 (.ptr 4 []),.set 2 (.fn 73 []),.set 0 x],[(4,.fix yA4 k)]⟩
section
variable (w g s g' s':Int)
theorem sp0 (h:4<=n):call gl tab n 107 [.lst true .sc [],coV w g s,.fn 73 []] []=some (.tup [i64 0,.bool false],[],[]):=by
 obtain⟨d,rfl⟩:=wC h;rw[au (fd:=A6) rfl];simp(disch:=apply zq;omega) only[go_sem,simprocAttr,↓wB,xx,A6,R0];rw[aE (fun _=>S07 (.lst true .sc []) (coV w g s) 0 0) 0 (by unfold LF;omega)]
 . simp(disch:=apply zq;omega) only[go_sem,simprocAttr,↓wB,xx,S07]
 . simp(disch:=apply zq;omega) only[go_sem,simprocAttr,↓wB,xx,S07]
 . intro i hi;omega
 . simp(disch:=apply zq;omega) only[go_sem,simprocAttr,↓wB,xx,S07]
theorem sp1 (h:4<=n):call gl tab n 107 [.lst false yA4 [coV w g s],coV w g' s',.fn 73 []] []=some (.tup [i64 0,.bool true],[],[]):=by
 obtain⟨d,rfl⟩:=wC h;have c:=@V4 gl (d+3) (by omega) w g s g' s';have hm:bW .shr .u64 1 1=some (.int .u64 0):=by kernel_rfl
 rw[au (fd:=A6) rfl];simp(disch:=apply zq;omega) only[go_sem,simprocAttr,↓wB,xx,A6,R0];rw[aE (fun i=>S07 (.lst false yA4 [coV w g s]) (coV w g' s') 1 (1-i)) 1 (by unfold LF;omega)]
 . simp(disch:=apply zq;omega) only[go_sem,simprocAttr,↓wB,xx,S07,c]
 . simp(disch:=apply zq;omega) only[go_sem,simprocAttr,↓wB,xx,S07]
 . intro i hi;obtain rfl:i=0:=by omega
   simp(disch:=apply zq;omega) only[go_sem,simprocAttr,↓wB,xx,S07,c,hm]
 . simp(disch:=apply zq;omega) only[go_sem,simprocAttr,↓wB,xx,S07]
theorem co0 (h:6<=n):call gl tab n 43 [wa0,i64 w] []=some (.tup [coV w 0 0,.bool false],[],[]):=by
 obtain⟨d,rfl⟩:=wC h;have c:=@sp0 gl (d+4) w 0 0 (by omega);have c2:call gl tab (d+5) 72 [.lst true .sc [],coV w 0 0,.fn 73 []] []=some (.tup [coV w 0 0,.bool false],[],[]):=by rw[au (fd:=Kj) rfl];simp(disch:=apply zq;omega) only[go_sem,simprocAttr,↓wB,xx,Kj,m72,c]
 rw[au (fd:=Ks) rfl];simp(disch:=apply zq;omega) only[go_sem,simprocAttr,↓wB,xx,Ks,m43,c2]
theorem co1 (h:6<=n):call gl tab n 43 [wa1 w g s,i64 w] []=some (.tup [coV w g s,.bool true],[],[]):=by
 obtain⟨d,rfl⟩:=wC h;have c:=@sp1 gl (d+4) w g s 0 0 (by omega);have c2:call gl tab (d+5) 72 [.lst false yA4 [coV w g s],coV w 0 0,.fn 73 []] []=some (.tup [coV w g s,.bool true],[],[]):=by rw[au (fd:=Kj) rfl];simp(disch:=apply zq;omega) only[go_sem,simprocAttr,↓wB,xx,Kj,m72,c]
 rw[au (fd:=Ks) rfl];simp(disch:=apply zq;omega) only[go_sem,simprocAttr,↓wB,xx,Ks,m43,c2]
theorem wt0 (h:6<=n):call gl tab n 61 [wa0,coV w g s] []=some (wa1 w g s,[],[]):=by
 obtain⟨d,rfl⟩:=wC h;have c:=@sp0 gl (d+4) w g s (by omega);have h1:(1:Nat)<=LIM:=by unfold LIM;omega
 have c58:call gl tab (d+4) 114 [.lst true .sc []] []=some (.sl 20000 [] 0 0,[],[.grow yA4 []]):=by rw[cX (fd:=Ez) rfl rfl];simp[iY]
 have c59:call gl tab (d+4) 115 [.sl 100000 [] 0 0,i64 0,.sl 100001 [] 0 1] [(100000,.grow yA4 []),(100001,.grow yA4 [coV w g s])] =
   some (.sl 20000 [] 0 1,[(100000,.dead),(100001,.grow yA4 [coV w g s])],[.grow yA4 [coV w g s]]):=by
  rw[cX (fd:=KH) rfl rfl];simp[l6,Sh.beq,Sh.beqs,h1,kZ]
 have c2:call gl tab (d+5) 89 [.lst true .sc [],coV w g s,.fn 73 []] []=some (.sl 20000 [] 0 1,[],[.grow yA4 [coV w g s]]):=by rw[au (fd:=Kg) rfl];simp(disch:=apply zq;omega) only[go_sem,simprocAttr,↓wB,xx,Kg,m89,c,c58,c59]
 rw[au (fd:=Km) rfl];simp(disch:=apply zq;omega) only[go_sem,simprocAttr,↓wB,xx,Km,m61,c2]
theorem wt1 (h:6<=n):call gl tab n 61 [wa1 w g s,coV w g' s'] []=some (wa1 w g' s',[],[]):=by
 obtain⟨d,rfl⟩:=wC h;have c:=@sp1 gl (d+4) w g s g' s' (by omega);have h1:(1:Nat)<=LIM:=by unfold LIM;omega
 have c58:call gl tab (d+4) 114 [.lst false yA4 [coV w g s]] []=some (.sl 20000 [] 0 1,[],[.grow yA4 [coV w g s]]):=by rw[cX (fd:=Ez) rfl rfl];simp[iY,Sh.beq,Sh.beqs,h1]
 have c2:call gl tab (d+5) 89 [.lst false yA4 [coV w g s],coV w g' s',.fn 73 []] []=some (.sl 20000 [] 0 1,[],[.grow yA4 [coV w g' s']]):=by rw[au (fd:=Kg) rfl];simp(disch:=apply zq;omega) only[go_sem,simprocAttr,↓wB,xx,Kg,m89,c,c58]
 rw[au (fd:=Km) rfl];simp(disch:=apply zq;omega) only[go_sem,simprocAttr,↓wB,xx,Km,m61,c2]
end
theorem No (h:4<=n):call gl tab n 25 [i64 1000] []=some (.tup [wa0,i64 0],[],[]):=by obtain⟨d,rfl⟩:=wC h;have c:=@vp0 gl (d+3) (by omega);rw[au (fd:=TC) rfl];simp(disch:=apply zq;omega) only[go_sem,simprocAttr,↓wB,xx,TC,m25,c]
section
variable {w g s:Int} (hw:0<=w/\w<=1000000) (hg:1<=g/\g<=1099511627776) (hs:0<=s/\s<=g) (h:8<=n)
include hw hg hs h
theorem M3 :call gl tab n 26 [wa0,i64 w,i64 g] []=some (.tup [wa1 w g 0,i64 0],[],[]):=by
 obtain⟨d,rfl⟩:=wC h;have c:=@vp0 gl (d+7) (by omega);have c1:=fun a lo hi (h1:lo<=a) (h2:a<=hi)=>@Ho gl (d+7) (by omega) a lo hi h1 h2
 have c2:=@Pt gl (d+7) (by omega) w hw.1 (by omega);have c3:=@co0 gl (d+7) w (by omega);have c4:=@wt0 gl (d+7) w g 0 (by omega);rw[au (fd:=TB) rfl];simp(disch:=apply zq;omega) only[go_sem,simprocAttr,↓wB,xx,TB,m26,c,c1,c2,c3,c4]
theorem Eg :call gl tab n 13 [wa1 w g s,i64 w] []=some (i64 (g-s),[],[]):=by obtain⟨d,rfl⟩:=wC h;have c:=@vp1 gl (d+7) w g s (by omega) (by omega) hs (by omega);have c3:=@co1 gl (d+7) w g s (by omega);rw[au (fd:=TJ) rfl];simp(disch:=apply zq;omega) only[go_sem,simprocAttr,↓wB,xx,TJ,m13,c,c3,Int.sub_zero]
end
theorem HD {w g s:Int}(hw:0<=w/\w<=1000000)(hg:1<=g/\g<=1099511627776)(hs:0<=s/\s<g)(h:9<=n):call gl tab n 41 [wa1 w g s,.agg [i64 (1000*w),i64 (1000*w+9)]] []=some (.tup [wa1 w g (s+1),i64 0],[],[]):=by
 obtain⟨d,rfl⟩:=wC h;have c:=@vp1 gl (d+8) w g s (by omega) (by omega) (by omega) (by omega);have c1:=@Eg gl (d+8) w g s hw hg (by omega) (by omega);have c3:=@co1 gl (d+8) w g s (by omega);have c4:=@wt1 gl (d+8) w g s g (s+1) (by omega);have c5:call gl tab (d+8) 30 [.agg [i64 (1000*w),i64 (1000*w+9)]] []=some (.bool true,[],[]):=by rw[au (fd:=Ku) rfl];simp(disch:=apply zq;omega) only[go_sem,simprocAttr,↓wB,xx,Ku,m30]
 have q0:∀x:Int,0<=x->x<=2000000000->x/1000=w->aM .quo .i64 x 1000=some (i64 w):=fun x h1 h2 h3=>by simp only[aM,show(1000:Int)≠0 by decide,if_false];rw[Int.tdiv_eq_ediv_of_nonneg h1,h3,nG (by omega) (by omega)]
 have q1:=q0 (1000*w) (by omega) (by omega) (by omega);have q2:=q0 (1000*w+9) (by omega) (by omega) (by omega);have q3:(g-s==0)=false:=by rw[beq_eq_false_iff_ne];omega
 rw[au (fd:=Tn) rfl];simp(disch:=apply zq;omega) only[go_sem,simprocAttr,↓wB,xx,Tn,m41,c,c1,c3,c4,c5,q1,q2,q3]
end Go.Proofs.S51
namespace Go.Proofs.S51
open Go Go.Ev Go.Proofs Go.Fl
variable {gl :Gl} {n:Nat}
noncomputable def L48:MC:=wq 0 m56
abbrev κ7 (j:Nat):Nat:=7000+j
section
variable {d N M:Nat} {b:Bool} {sh:Sh} {l:List Ar} {fl:List Int}
def ku (N:Nat)(b:Bool)(l:List Ar)(k:Nat):Fr:=[.set 21 (i64 (k:Int)),.set 20 (i64 (l.length:Int)),.set 19 (.lst b yA4 (rs l)),.set 5 (.ptr 17 [])]
def B48 (N:Nat)(b:Bool)(l:List Ar)(M:Nat):Hp:=[(17,.fix sNw (.aggR [.agg [i64 (N:Int),.lst b yA4 (rs l)],.sl 100000 [] 0 M,.sl 12 [] 0 N,.sl 15 [] 0 N])),(15,.grow .sc (ns (List.replicate N 0)))]
def T48 (N:Nat)(b:Bool)(l:List Ar)(fl:List Int)(M:Nat)(k:Nat):St:=fT (ku N b l k) [(100000,.grow .sc (ns fl))] (B48 N b l M) [] 12 N .sc κ7 (dD l k N)
theorem g7 {k:Nat}{ls:List (List AV)}{r:Hp}(h:k<7000):Hp.get (fH .sc κ7 0 ls++r) k=Hp.get r k:=tC fun j _ e=>by unfold κ7 at e;omega
theorem g7' {v:Nat}{ls:List (List AV)}{r:Hp}{l:List AV}(h:ls[v]? =some l)(he:l.isEmpty=false):Hp.get (fH .sc κ7 0 ls++r) (7000+v)=some (.grow .sc l):=by have:=v7 (sh:=.sc) (κ:=κ7) (r:=r) (i:=0) (ls:=ls) (j:=v) (l:=l) (fun a b _ _ e=>by unfold κ7 at e;omega) h he;rw[wD]at this;exact this
theorem e7 {v k:Nat}(h:v<N):(fE κ7 0 (dD l k N))[v]? =some (if(us (adj l k v)).isEmpty then .lst true .sc []else .sl (7000+v) [] 0 (us (adj l k v)).length):=by rw[tP,gw h,wD];rfl
theorem xT {κ:Nat->Nat}:∀{i:Nat} {ls:List (List AV)} {k:Nat},k∈AV.refss (fE κ i ls)->∃j,nE ls i j/\k=κ j
 | i,[],k,h=>by simp[fE,AV.refss]at h
 | i,l::ls,k,h=>by
   rw[fE,AV.refss,wX]at h;rcases h with h|h
   . cases hl:l.isEmpty with
     | true=>rw[hl]at h;simp[AV.refs]at h
     | false=>rw[hl]at h;simp[AV.refs]at h;exact⟨i,iN hl,h⟩
   . obtain⟨j,h1,h2⟩:=xT h;exact⟨j,eZ h1,h2⟩
theorem mg {st:St}{κ:Nat->Nat}{k:Nat}(hN:N<=1000)
  (s5:st.fr.get 5= .ptr 17 []) (s19:st.fr.get 19= .lst b yA4 (rs l)) (s20:st.fr.get 20=i64 (l.length:Int)) (s21:st.fr.get 21=i64 (k:Int))
  (h17:st.hp.get 17=some (.fix sNw (.aggR [.agg [i64 (N:Int),.lst b yA4 (rs l)],.sl 100000 [] 0 M,.sl 12 [] 0 N,.sl 15 [] 0 N])))
  (h15:st.hp.get 15=some (.grow .sc (ns (List.replicate N 0)))) (h12:st.hp.get 12=some (.fix (.ar N .sc) (.aggR (fE κ 0 (dD l k N)))))
  (hb:js st.hp 64 0=[.key 100000]) (h100:st.hp.get 100000=some (.grow .sc (ns fl)))
  (hget:∀v,v<N->(us (adj l k v)).isEmpty=false->st.hp.get (κ v)=some (.grow .sc (us (adj l k v))))
  (hκ:∀v,v<N->κ v=7000+v\/(17<κ v/\κ v<7000)) (hinj:∀u v,u<N->v<N->κ u=κ v->u=v) (tl:List Kp) (t1:∀hp,fC hp tl=[]) (t2:∀hp s,fN hp tl s=some s) (t3:∀s,dC tl s=some s:=by exact fun _=>rfl) :
  bT ([.slot 5,.slot 19,.slot 20,.slot 21,.key 12,.key 15,.key 17]++.fam 12 7000::tl) st=cJ tl (T48 N b l fl M k):=by
 have hlt:∀j,nE (dD l k N) 0 j->j<N/\(us (adj l k j)).isEmpty=false:=fun j ⟨m,_,h2,h3⟩=>by rw[Nat.sub_zero]at h2;have h4:=(wG.1 h2).1;rw[bK]at h4;rw[gw h4]at h2;cases h2;exact⟨h4,h3⟩
 have hk:∀j,nE (dD l k N) 0 j->κ j∉[12,15,17,100000]:=fun j hj=>by have h1:=(hlt j hj).1;have h2:=hκ j h1;simp only[wO,wQ,or_false];omega
 have:=ui (st:=st) (ks0:=[.slot 5,.slot 19,.slot 20,.slot 21,.key 12,.key 15,.key 17]) (bg:=[.key 100000]) (q0:=12) (base:=7000) (N:=N) (sh:=.sc) (κ:=κ) (ls:=dD l k N)
  (fr:=ku N b l k) (A:=[(100000,.grow .sc (ns fl))]) (B:=B48 N b l M) (C:=[]) (X:=[12,15,17,100000])
  rfl rfl rfl (by simp[eU,gJ,s5,s19,s20,s21,h17,h15,h12,ku,B48]) hb (fun s=>by simp[eU,gJ,h100]) rfl rfl
  (by decide) (by decide) (fun k hk=>by
    simp only[Kp.slotRefs,s5,s19,s20,s21,h12,h15,h17,h100,er,bO,AV.refs,AV.refss,List.append_nil,wF,wX,wO,wQ,or_false,Kp.keys]at hk ⊢;rcases hk with hk|hk
    . left;omega
    . rcases hk with hk|hk
      . exact .inr (xT hk)
      . left;omega) (fun s=>rfl) (fun s=>rfl) (fun s=>rfl) h12 (fun j m h1 h2=>by
    have h4:=(wG.1 h1).1;rw[bK]at h4;rw[gw h4]at h1;cases h1;exact hget j h4 h2) (by decide) (by simp[okF,ku,AV.refs]) (by simp[okH,bO]) (by simp[okH,B48,bO,AV.refs,AV.refss]) rfl
  (fun x hx j hj=>by
    rw[bK]at hj;simp only[wO,wQ,or_false]at hx;omega) (by rw[bK];unfold SHK;omega) (fun j hj=>by have:=hκ j (hlt j hj).1;omega) hk (fun a b ha hb e=>hinj a b (hlt a ha).1 (hlt b hb).1 e) tl t1 t2 t3
 exact this
theorem g8 {k k':Nat}{r:Hp}(hN:N<=1000)(h:8000<=k'):Hp.get (fH .sc κ7 0 (dD l k N)++r) k'=Hp.get r k':=tC fun j hj e=>by obtain⟨m,_,h2,h3⟩:=hj;have h4:=(wG.1 h2).1;rw[bK]at h4;unfold κ7 at e;omega
def κ8 (f t v:Nat):Nat:=if v=f then 42 else if v=t then 60 else 7000+v
theorem κ8_b {f t v:Nat}:κ8 f t v=7000+v\/(17<κ8 f t v/\κ8 f t v<7000):=by
 unfold κ8;by_cases h:v=f
 . rw[if_pos h];omega
 . rw[if_neg h];by_cases h:v=t
   . rw[if_pos h];omega
   . rw[if_neg h];omega
theorem κ8_i {f t u v:Nat}(e:κ8 f t u=κ8 f t v):u=v:=by
 unfold κ8 at e;by_cases h1:u=f
 . rw[if_pos h1]at e;by_cases h2:v=f
   . omega
   . rw[if_neg h2]at e;by_cases h3:v=t
     . rw[if_pos h3]at e;omega
     . rw[if_neg h3]at e;omega
 . rw[if_neg h1]at e;by_cases h2:u=t
   . rw[if_pos h2]at e;by_cases h3:v=f
     . rw[if_pos h3]at e;omega
     . rw[if_neg h3]at e;by_cases h4:v=t
       . omega
       . rw[if_neg h4]at e;omega
   . rw[if_neg h2]at e;by_cases h3:v=f
     . rw[if_pos h3]at e;omega
     . rw[if_neg h3]at e;by_cases h4:v=t
       . rw[if_pos h4]at e;omega
       . rw[if_neg h4]at e;omega
theorem KT {k f t:Nat}(hf:(art l k).f=f)(ht:(art l k).t=t)(hfN:f<N)(htN:t<N) :
  fE (κ8 f t) 0 (dD l (k+1) N)=((fE κ7 0 (dD l k N)).set f (.sl 42 [] 0 ((us (adj l k f)).length+1))).set t (if f=t then .sl 42 [] 0 ((us (adj l k f)).length+1)else .sl 60 [] 0 ((us (adj l k t)).length+1)):=by
 refine wP fun v=> ?_
 rw[tP,wW,wW,wH,eG,bK,wD];by_cases hv:v<N
 . rw[gw hv,wZ,adj,hf,ht];by_cases e1:v=f
   . subst e1;rw[if_pos (Or.inl rfl),dU,κ8,if_pos rfl,wU,if_neg (by simp)];by_cases e2:t=v
     . subst e2;simp[hv]
     . rw[if_neg e2,if_pos rfl,if_pos hv];rfl
   . by_cases e2:v=t
     . subst e2;rw[if_pos (Or.inr rfl),dU,κ8,if_neg e1,if_pos rfl,wU,if_neg (by simp),if_pos rfl,if_pos hv,if_neg (show ¬f=v from fun e=>e1 e.symm)];rfl
     . rw[if_neg (show ¬(f=v\/t=v)from fun h=>h.elim (fun h=>e1 h.symm) fun h=>e2 h.symm),if_neg (show ¬t=v from fun e=>e2 e.symm),if_neg (show ¬f=v from fun e=>e1 e.symm),e7 hv];unfold κ8;rw[if_neg e1,if_neg e2]
 . have e1:(dD l (k+1) N)[v]? =none:=by rw[wN];rw[bK];omega
   have e2:(fE κ7 0 (dD l k N))[v]? =none:=by rw[wN];rw[eG,bK];omega
   rw[e1,e2,if_neg (by omega),if_neg (by omega)];rfl
set_option maxHeartbeats 4000000 in
theorem QV (hN:N<=1000)(hM:l.length<=10000){k:Nat}(hk:k<l.length)(hf:(art l k).f<N)(ht:(art l k).t<N)(hne:(art l k).f≠(art l k).t) :
  aK K48 (evC gl (call gl tab d) L48 (T48 N b l fl M k))=some (T48 N b l fl M (k+1)):=by
 have hx:=dY hk;have ef:=e7 (l:=l) (k:=k) hf;have et:=e7 (l:=l) (k:=k) ht;have gf:=fun r h=>g7' (r:=r) (gw (a:=l) (k:=k) hf) h
 have gt:=fun r h=>g7' (r:=r) (gw (a:=l) (k:=k) ht) h
 have lf:=eG κ7 0 (dD l k N);rw[bK]at lf;have n1:∀v,(17==7000+v)=false:=fun v=>by rw[beq_eq_false_iff_ne];omega
 have n2:∀v,(7==7000+v)=false:=fun v=>by rw[beq_eq_false_iff_ne];omega
 have l1:1<=LIM:=by unfold LIM;omega
 have es:∀v,((fE κ7 0 (dD l k N)).set (art l k).f v)[(art l k).t]? =(fE κ7 0 (dD l k N))[(art l k).t]? :=fun v=>by rw[wS hne]
 have b1:=oX l (art l k).f k;have b2:=oX l (art l k).t k;have tk:∀(u:List AV) (v:AV),(u++[v]).take (u.length+1)=u++[v]:=fun u v=>List.take_of_length_le (by simp)
 rw[<-aj]at b1 b2;generalize hE:evC gl (call gl tab d) L48 (T48 N b l fl M k)=r;generalize huf:us (adj l k (art l k).f)=uf at *
 generalize hut:us (adj l k (art l k).t)=ut at *
 have l2:uf.length+1<=LIM:=by unfold LIM;omega
 have l3:ut.length+1<=LIM:=by unfold LIM;omega
 have us1:us (adj l (k+1) (art l k).f)=uf++[i64 (k:Int)]:=by rw[adj,if_pos (Or.inl rfl),dU,huf]
 have us2:us (adj l (k+1) (art l k).t)=ut++[i64 (k:Int)]:=by rw[adj,if_pos (Or.inr rfl),dU,hut]
 have us3:∀v,v≠(art l k).f->v≠(art l k).t->adj l (k+1) v=adj l k v:=fun v h1 h2=>by rw[adj,if_neg (fun h=>h.elim (fun h=>h1 h.symm) fun h=>h2 h.symm)]
 have eF:=KT (N:=N) (l:=l) (k:=k) rfl rfl hf ht;rw[if_neg hne,huf,hut]at eF;have hget:∀v,v<N->v≠(art l k).f->v≠(art l k).t->∀r,(us (adj l k v)).isEmpty=false->Hp.get (fH .sc κ7 0 (dD l k N)++r) (7000+v)=some (.grow .sc (us (adj l k v))):=fun v hv _ _ r h=>g7' (gw hv) h
 cases h1:uf.isEmpty with
 | true =>
   obtain rfl:=wR.1 h1;rw[if_pos h1]at ef
   cases h2:ut.isEmpty with
   | true =>
     obtain rfl:=wR.1 h2;rw[if_pos h2]at et;simp(disch:=apply zq;omega) only[go_sem,simprocAttr,↓wB,xx,L48,T48,fT,ku,B48,ak,hx,g7,ef,et,lf,l1,es,wH,n1,n2]at hE;subst hE;rw[cW];refine mg (κ:=κ8 (art l k).f (art l k).t) hN rfl rfl rfl rfl (by simp(disch:=apply zq;omega) only[go_sem,simprocAttr,↓wB,xx,g7]) (by simp(disch:=apply zq;omega) only[go_sem,simprocAttr,↓wB,xx,g7]) (by simp(disch:=apply zq;omega) only[go_sem,simprocAttr,↓wB,xx,eF,wJ]) (by simp(disch:=apply zq;omega) only[go_sem,simprocAttr,↓wB,xx,js,g8]) (by simp(disch:=apply zq;omega) only[go_sem,simprocAttr,↓wB,xx]) (fun v hv he=> ?_) (fun v _=>κ8_b) (fun u v _ _=>κ8_i) [] (fun _=>rfl) (fun _ _=>rfl);by_cases e1:v=(art l k).f
     . subst e1;rw[us1];simp(disch:=apply zq;omega) only[go_sem,simprocAttr,↓wB,xx,κ8,wF]
     . by_cases e2:v=(art l k).t
       . subst e2;rw[us2];simp(disch:=apply zq;omega) only[go_sem,simprocAttr,↓wB,xx,κ8,wF]
       . rw[us3 v e1 e2]at he ⊢;have:=hget v hv e1 e2;unfold κ8;rw[if_neg e1,if_neg e2];simp(disch:=apply zq;omega) only[go_sem,simprocAttr,↓wB,xx,this,he]
   | false =>
     rw[if_neg (by rw[h2];decide)]at et;have gt:=fun r=>gt r h2
     simp(disch:=apply zq;omega) only[go_sem,simprocAttr,↓wB,xx,L48,T48,fT,ku,B48,ak,hx,g7,ef,et,lf,l1,es,wH,gt,l3,tk,n1,n2]at hE;subst hE;rw[cW];refine mg (κ:=κ8 (art l k).f (art l k).t) hN rfl rfl rfl rfl (by simp(disch:=apply zq;omega) only[go_sem,simprocAttr,↓wB,xx,g7]) (by simp(disch:=apply zq;omega) only[go_sem,simprocAttr,↓wB,xx,g7]) (by simp(disch:=apply zq;omega) only[go_sem,simprocAttr,↓wB,xx,eF,wJ]) (by simp(disch:=apply zq;omega) only[go_sem,simprocAttr,↓wB,xx,js,g8]) (by simp(disch:=apply zq;omega) only[go_sem,simprocAttr,↓wB,xx]) (fun v hv he=> ?_) (fun v _=>κ8_b) (fun u v _ _=>κ8_i) [] (fun _=>rfl) (fun _ _=>rfl);by_cases e1:v=(art l k).f
     . subst e1;rw[us1];simp(disch:=apply zq;omega) only[go_sem,simprocAttr,↓wB,xx,κ8,wF]
     . by_cases e2:v=(art l k).t
       . subst e2;rw[us2];simp(disch:=apply zq;omega) only[go_sem,simprocAttr,↓wB,xx,κ8,wF]
       . rw[us3 v e1 e2]at he ⊢;have:=hget v hv e1 e2;unfold κ8;rw[if_neg e1,if_neg e2];simp(disch:=apply zq;omega) only[go_sem,simprocAttr,↓wB,xx,this,he]
 | false =>
   rw[if_neg (by rw[h1];decide)]at ef;have gf:=fun r=>gf r h1
   cases h2:ut.isEmpty with
   | true =>
     obtain rfl:=wR.1 h2;rw[if_pos h2]at et;simp(disch:=apply zq;omega) only[go_sem,simprocAttr,↓wB,xx,L48,T48,fT,ku,B48,ak,hx,g7,ef,et,lf,l1,es,wH,gf,l2,tk,n1,n2]at hE;subst hE;rw[cW];refine mg (κ:=κ8 (art l k).f (art l k).t) hN rfl rfl rfl rfl (by simp(disch:=apply zq;omega) only[go_sem,simprocAttr,↓wB,xx,g7]) (by simp(disch:=apply zq;omega) only[go_sem,simprocAttr,↓wB,xx,g7]) (by simp(disch:=apply zq;omega) only[go_sem,simprocAttr,↓wB,xx,eF,wJ]) (by simp(disch:=apply zq;omega) only[go_sem,simprocAttr,↓wB,xx,js,g8]) (by simp(disch:=apply zq;omega) only[go_sem,simprocAttr,↓wB,xx]) (fun v hv he=> ?_) (fun v _=>κ8_b) (fun u v _ _=>κ8_i) [] (fun _=>rfl) (fun _ _=>rfl);by_cases e1:v=(art l k).f
     . subst e1;rw[us1];simp(disch:=apply zq;omega) only[go_sem,simprocAttr,↓wB,xx,κ8,wF]
     . by_cases e2:v=(art l k).t
       . subst e2;rw[us2];simp(disch:=apply zq;omega) only[go_sem,simprocAttr,↓wB,xx,κ8,wF]
       . rw[us3 v e1 e2]at he ⊢;have:=hget v hv e1 e2;unfold κ8;rw[if_neg e1,if_neg e2];simp(disch:=apply zq;omega) only[go_sem,simprocAttr,↓wB,xx,this,he]
   | false =>
     rw[if_neg (by rw[h2];decide)]at et;have gt:=fun r=>gt r h2
     simp(disch:=apply zq;omega) only[go_sem,simprocAttr,↓wB,xx,L48,T48,fT,ku,B48,ak,hx,g7,ef,et,lf,l1,es,wH,gf,gt,l2,l3,tk,n1,n2]at hE;subst hE;rw[cW];refine mg (κ:=κ8 (art l k).f (art l k).t) hN rfl rfl rfl rfl (by simp(disch:=apply zq;omega) only[go_sem,simprocAttr,↓wB,xx,g7]) (by simp(disch:=apply zq;omega) only[go_sem,simprocAttr,↓wB,xx,g7]) (by simp(disch:=apply zq;omega) only[go_sem,simprocAttr,↓wB,xx,eF,wJ]) (by simp(disch:=apply zq;omega) only[go_sem,simprocAttr,↓wB,xx,js,g8]) (by simp(disch:=apply zq;omega) only[go_sem,simprocAttr,↓wB,xx]) (fun v hv he=> ?_) (fun v _=>κ8_b) (fun u v _ _=>κ8_i) [] (fun _=>rfl) (fun _ _=>rfl);by_cases e1:v=(art l k).f
     . subst e1;rw[us1];simp(disch:=apply zq;omega) only[go_sem,simprocAttr,↓wB,xx,κ8,wF]
     . by_cases e2:v=(art l k).t
       . subst e2;rw[us2];simp(disch:=apply zq;omega) only[go_sem,simprocAttr,↓wB,xx,κ8,wF]
       . rw[us3 v e1 e2]at he ⊢;have:=hget v hv e1 e2;unfold κ8;rw[if_neg e1,if_neg e2];simp(disch:=apply zq;omega) only[go_sem,simprocAttr,↓wB,xx,this,he]
def LK (N:Nat)(b:Bool)(l:List Ar)(fl:List Int)(M:Nat):St:=⟨ku N b l 0,(100000,.grow .sc (ns fl))::(B48 N b l M++[(12,.fix (.ar N .sc) (.agg (List.replicate N (.lst true .sc []))))])⟩
theorem Mu (hN:N<=1000)(hM:l.length<=10000)(hk:0<l.length)(hf:(art l 0).f<N)(ht:(art l 0).t<N)(hne:(art l 0).f≠(art l 0).t) :
  aK K48 (evC gl (call gl tab d) L48 (LK N b l fl M))=some (T48 N b l fl M 1):=by
 have hx:=dY hk;have l1:1<=LIM:=by unfold LIM;omega
 have ef:(List.replicate N (AV.lst true .sc []))[(art l 0).f]? =some (.lst true .sc []):=by rw[wK,if_pos hf]
 have et:∀v,((List.replicate N (AV.lst true .sc [])).set (art l 0).f v)[(art l 0).t]? =some (.lst true .sc []):=fun v=>by rw[wS hne,wK,if_pos ht]
 generalize hE:evC gl (call gl tab d) L48 (LK N b l fl M)=r;simp(disch:=apply zq;omega) only[go_sem,simprocAttr,↓wB,xx,L48,LK,ku,B48,ak,hx,ef,et,l1,wH,List.length_replicate]at hE;have eF:=KT (N:=N) (l:=l) (k:=0) rfl rfl hf ht;have e0:fE κ7 0 (dD l 0 N)=List.replicate N (.lst true .sc []):=by
  refine wP fun v=> ?_
  rw[wK];split
  . rename_i h;rw[e7 h];rfl
  . rw[wN];rw[eG,bK];omega
 rw[if_neg hne,e0]at eF;subst hE;rw[cW];refine mg (κ:=κ8 (art l 0).f (art l 0).t) hN rfl rfl rfl rfl (by simp(disch:=apply zq;omega) only[go_sem,simprocAttr,↓wB,xx]) (by simp(disch:=apply zq;omega) only[go_sem,simprocAttr,↓wB,xx]) (by simp(disch:=apply zq;omega) only[go_sem,simprocAttr,↓wB,xx,eF,adj,us,wM,wJ]) (by simp(disch:=apply zq;omega) only[go_sem,simprocAttr,↓wB,xx,js]) (by simp(disch:=apply zq;omega) only[go_sem,simprocAttr,↓wB,xx]) (fun v hv he=> ?_) (fun v _=>κ8_b) (fun u v _ _=>κ8_i) [] (fun _=>rfl) (fun _ _=>rfl);by_cases e1:v=(art l 0).f
 . subst e1;simp(disch:=apply zq;omega) only[go_sem,simprocAttr,↓wB,xx,κ8,adj,dU,us,wM,wF,true_or,if_true]
 . by_cases e2:v=(art l 0).t
   . subst e2;simp(disch:=apply zq;omega) only[go_sem,simprocAttr,↓wB,xx,κ8,adj,dU,us,wM,wF,or_true,if_true,if_neg e1]
   . rw[show adj l (0+1) v=[] by rw[adj,if_neg (fun h=>h.elim (fun h=>e1 h.symm) fun h=>e2 h.symm)];rfl]at he;cases he
theorem C3 {k v:Nat}(h:v∈fKs κ7 0 (dD l k N)):7000<=v/\v<7000+N:=by obtain⟨j,⟨m,_,h2,_⟩,rfl⟩:=yL.1 h;have h4:=(wG.1 h2).1;rw[bK]at h4;unfold κ7;omega
def ntV (N:Nat)(b:Bool)(l:List Ar)(k M:Nat):AV:=.aggR [.agg [i64 (N:Int),.lst b yA4 (rs l)],.sl 100000 [] 0 M,.lst false .sc ((dD l k N).map (lV .sc)),.sl 15 [] 0 N]
theorem VQ {k:Nat}(hN:N<=1000):∃H:Hp,cJ [.frz 17 [2]] (T48 N b l fl M k)=some ⟨ku N b l k,H⟩/\H.get 17=some (.fix sNw (ntV N b l k M))/\H.get 15=some (.grow .sc (ns (List.replicate N 0)))/\H.get 100000=some (.grow .sc (ns fl))/\H.get 100001=none:=by
 have g12:Hp.get (T48 N b l fl M k).hp 12=some (.fix (.ar N .sc) (.aggR (fE κ7 0 (dD l k N)))):=by simp(disch:=apply zq;omega) only[go_sem,simprocAttr,↓wB,xx,T48,fT,B48,g7]
 have g17:Hp.get (T48 N b l fl M k).hp 17=some (.fix sNw (.aggR [.agg [i64 (N:Int),.lst b yA4 (rs l)],.sl 100000 [] 0 M,.sl 12 [] 0 N,.sl 15 [] 0 N])):=by simp(disch:=apply zq;omega) only[go_sem,simprocAttr,↓wB,xx,T48,fT,B48,g7]
 have g15:Hp.get (T48 N b l fl M k).hp 15=some (.grow .sc (ns (List.replicate N 0))):=by simp(disch:=apply zq;omega) only[go_sem,simprocAttr,↓wB,xx,T48,fT,B48,g7]
 have g10:Hp.get (T48 N b l fl M k).hp 100000=some (.grow .sc (ns fl)):=by simp(disch:=apply zq;omega) only[go_sem,simprocAttr,↓wB,xx,T48,fT]
 have g11:Hp.get (T48 N b l fl M k).hp 100001=none:=by simp(disch:=apply zq;omega) only[go_sem,simprocAttr,↓wB,xx,T48,fT,B48,g8]
 have hz:gK (T48 N b l fl M k).hp (fE κ7 0 (dD l k N))=some ((dD l k N).map (lV .sc),fKs κ7 0 (dD l k N)):=tF fun j m h1 h2=>by
  rw[wD];have:=g7' (r:=B48 N b l M++((12,.fix (.ar N .sc) (.aggR (fE κ7 0 (dD l k N))))::[])) h1 h2;have hj:j<N:=by
   have h4:=(wG.1 h1).1
   rwa [bK]at h4
  show Hp.get ((100000,_)::(fH .sc κ7 0 (dD l k N)++(B48 N b l M++((12,_)::[])))) (7000+j)=_;rw[dL,if_neg (by omega),this]
 have hc:(12::fKs κ7 0 (dD l k N)).contains 17=false:=by
  rw[<-Bool.not_eq_true,List.contains_iff_mem,wO];rintro (h|h)
  . omega
  . have:=C3 h;omega
 have ha:(fKs κ7 0 (dD l k N)).all (fun j=>decide (j<SHK))=true:=by rw[List.all_eq_true];intro j hj;have:=C3 hj;exact decide_eq_true (by unfold SHK;omega)
 have gd:∀r k',k'≠12->k'<7000\/8000<=k'->Hp.get (ct (12::fKs κ7 0 (dD l k N))++r) k'=Hp.get r k':=fun r k' h1 h2=>pN fun h=>by
  rw[wO]at h;rcases h with h|h
  . exact h1 h
  . have:=C3 h;omega
 refine⟨(17,.fix sNw (ntV N b l k M))::(ct (12::fKs κ7 0 (dD l k N))++(T48 N b l fl M k).hp),?_,rfl,?_,?_,?_⟩
 . have:CY (T48 N b l fl M k) 17 [2]=some ⟨ku N b l k,(17,.fix sNw (ntV N b l k M))::(ct (12::fKs κ7 0 (dD l k N))++(T48 N b l fl M k).hp)⟩:=by
    have hn:(AV.aggR [.agg [i64 (N:Int),.lst b yA4 (rs l)],.sl 100000 [] 0 M,.sl 12 [] 0 N,.sl 15 [] 0 N]).nav [2]=some (.sl 12 [] 0 N):=rfl;have hs:sNw.sub [2]=some .sc:=rfl;have hd:decide (12<SHK)=true:=by decide
    have hst:(AV.aggR [.agg [i64 (N:Int),.lst b yA4 (rs l)],.sl 100000 [] 0 M,.sl 12 [] 0 N,.sl 15 [] 0 N]).setNav [2] (.lst false .sc ((dD l k N).map (lV .sc)))=some (ntV N b l k M):=rfl;unfold CY;rw[g17];simp only[hn,hs,g12,AV.kids,hz,wY,hc,ha,hd,hst,wZ,beq_self_eq_true,Bool.not_false,Bool.and_true,if_true,decide_true];rfl
   rw[cJ,this];rfl
 . rw[dL,if_neg (by omega),gd _ _ (by omega) (by omega)];exact g15
 . rw[dL,if_neg (by omega),gd _ _ (by omega) (by omega)];exact g10
 . rw[dL,if_neg (by omega),gd _ _ (by omega) (by omega)];exact g11
theorem Oe (N:Nat):∀b,GA b (List.replicate N (AV.lst true .sc []))=[]:=by
 induction N with
 | zero=>exact fun _=>rfl
 | succ N ih=>intro b;rw[wT,GA,ih];rfl
theorem VP (hp:Hp):∀N,gK hp (List.replicate N (AV.lst true .sc []))=some (List.replicate N (AV.lst true .sc []),[])
 | 0=>rfl
 | N+1=>by rw[wT,gK,VP hp N];rfl
theorem vQ {ks:List Kp}{x:Option (Ex×St)}{st st':St}(h:x=some (.norm,st))(hc:bT ks st=some st'):AH ks x=some (.norm,st'):=by subst h;exact tp hc
theorem VT (hN:N<=1000){k:Nat}(hk:k=l.length):∃H:Hp,bT ([.slot 5,.slot 19,.slot 20,.slot 21,.key 12,.key 15,.key 17]++.fam 12 7000::[.frz 17 [2]]) ⟨.set 22 (.bool false)::ku N b l k,(T48 N b l fl M k).hp⟩=some ⟨ku N b l k,H⟩/\H.get 17=some (.fix sNw (ntV N b l k M))/\H.get 15=some (.grow .sc (ns (List.replicate N 0)))/\H.get 100000=some (.grow .sc (ns fl))/\H.get 100001=none:=by obtain⟨H,hz,h1⟩:=@VQ N M b l fl k hN;refine⟨H,?_,h1⟩;rw[<-hz];refine mg (κ:=κ7) hN rfl rfl rfl rfl (by simp(disch:=apply zq;omega) only[go_sem,simprocAttr,↓wB,xx,T48,fT,B48,g7]) (by simp(disch:=apply zq;omega) only[go_sem,simprocAttr,↓wB,xx,T48,fT,B48,g7]) (by simp(disch:=apply zq;omega) only[go_sem,simprocAttr,↓wB,xx,T48,fT,B48,g7]) (by simp(disch:=apply zq;omega) only[go_sem,simprocAttr,↓wB,xx,js,T48,fT,B48,g8]) (by simp(disch:=apply zq;omega) only[go_sem,simprocAttr,↓wB,xx,T48,fT,B48,g7]) (fun v hv he=> ?_) (fun v _=>.inl rfl) (fun u v _ _ e=>by unfold κ7 at e;omega) [.frz 17 [2]] (fun _=>rfl) (fun _ _=>rfl);have:=g7' (r:=B48 N b l M++((12,.fix (.ar N .sc) (.aggR (fE κ7 0 (dD l k N))))::[])) (gw (a:=l) (k:=k) hv) he;show Hp.get ((100000,_)::(fH .sc κ7 0 (dD l k N)++(B48 N b l M++((12,_)::[])))) (7000+v)=_;rw[dL,if_neg (by omega),this]
set_option maxHeartbeats 4000000 in
theorem LB (hn:1<=n)(hN:N<=1000)(hM:l.length<=10000)(hsh:l=[]\/sh=yA4)(hf:∀k,k<l.length->(art l k).f<N)(ht:∀k,k<l.length->(art l k).t<N)(hne:∀k,k<l.length->(art l k).f≠(art l k).t) :
  call gl tab n 56 [.agg [i64 (N:Int),.lst b sh (rs l)],.sl 100000 [] 0 M] [(100000,.grow .sc (ns fl))] =
   some (.ptr 20000 [],[(100000,.grow .sc (ns fl))],[.fix sNw (.aggR [.agg [i64 (N:Int),.lst b sh (rs l)],.sl 100000 [] 0 M,.lst false .sc ((dD l l.length N).map (lV .sc)),.sl 20001 [] 0 N]),.grow .sc (ns (List.replicate N 0))]):=by
 obtain⟨d,rfl⟩:=wC hn;have hl:N<=LIM:=by unfold LIM;omega
 have hr:List.replicate N (i64 0)=ns (List.replicate N 0):=yb N 0;rw[bf (fd:=N8) rfl];rcases wE l.length with h0|h0
 . obtain rfl:=List.length_eq_zero_iff.1 h0
   have e1:(dD [] 0 N).map (lV .sc)=List.replicate N (.lst true .sc []):=by
    refine wP fun v=> ?_
    rw[wK,List.getElem?_map];split
    . rename_i h;rw[gw h];rfl
    . rw[wN (by rw[bK];omega)];rfl
   have e2:=fun hp=>VP hp N
   simp(disch:=apply zq;omega) only[go_sem,simprocAttr,↓wB,xx,N8,m56,rs,wM,wJ,hl,hr,e1];rw[aE (fun k=>⟨[.set 21 (i64 0),.set 20 (i64 0),.set 19 (.lst b sh []),.set 5 (.ptr 17 [])],[(100000,.grow .sc (ns fl)),(17,.fix sNw (.aggR [.agg [i64 (N:Int),.lst b sh []],.sl 100000 [] 0 M,.sl 12 [] 0 N,.sl 15 [] 0 N])),(15,.grow .sc (ns (List.replicate N 0))),(12,.fix (.ar N .sc) (.agg (List.replicate N (.lst true .sc []))))]⟩) 0 (by unfold LF;omega)]
   . have hc:bT [.slot 5,.slot 19,.slot 20,.slot 21,.key 12,.key 15,.key 17,.fam 12 7000,.frz 17 [2]] ⟨[.set 22 (.bool false),.set 21 (i64 0),.set 20 (i64 0),.set 19 (.lst b sh []),.set 5 (.ptr 17 [])],[(100000,.grow .sc (ns fl)),(17,.fix sNw (.aggR [.agg [i64 (N:Int),.lst b sh []],.sl 100000 [] 0 M,.sl 12 [] 0 N,.sl 15 [] 0 N])),(15,.grow .sc (ns (List.replicate N 0))),(12,.fix (.ar N .sc) (.agg (List.replicate N (.lst true .sc []))))]⟩ =
       some ⟨[.set 21 (i64 0),.set 20 (i64 0),.set 19 (.lst b sh []),.set 5 (.ptr 17 [])],[(17,.fix sNw (.aggR [.agg [i64 (N:Int),.lst b sh []],.sl 100000 [] 0 M,.lst false .sc (List.replicate N (.lst true .sc [])),.sl 15 [] 0 N])),(12,.dead),(100000,.grow .sc (ns fl)),(17,.fix sNw (.aggR [.agg [i64 (N:Int),.lst b sh []],.sl 100000 [] 0 M,.sl 12 [] 0 N,.sl 15 [] 0 N])),(15,.grow .sc (ns (List.replicate N 0))),(12,.fix (.ar N .sc) (.agg (List.replicate N (.lst true .sc []))))]⟩:=by
      simp(disch:=apply zq;omega) only[go_sem,simprocAttr,↓wB,xx,mL,AV.kids,Oe,dS,Kp.keys,Kp.owns,wM,iK,wY,e2]
     simp(disch:=apply zq;omega) only[go_sem,simprocAttr,↓wB,xx];rw[tp hc];simp(disch:=apply zq;omega) only[go_sem,simprocAttr,↓wB,xx]
   . simp(disch:=apply zq;omega) only[go_sem,simprocAttr,↓wB,xx,mL,AV.kids,Oe,dS,Kp.keys,Kp.owns,wM,iK,wY]
   . intro i hi;omega
   . simp(disch:=apply zq;omega) only[go_sem,simprocAttr,↓wB,xx]
 . have hsh:sh=yA4:=hsh.resolve_left (fun e=>by rw[e]at h0;simp at h0);subst hsh;have h1:=@Mu gl d N M b l fl hN hM h0 (hf 0 h0) (ht 0 h0) (hne 0 h0);have hs:=fun k hk=>@QV gl d N M b l fl hN hM k hk (hf k hk) (ht k hk) (hne k hk)
   obtain⟨H,hz,z1,z2,z3,z4⟩:=@VT N M b l fl hN l.length rfl;simp only[List.cons_append,wF]at hz;simp only[L48,wq,K48]at h1 hs;simp(disch:=apply zq;omega) only[go_sem,simprocAttr,↓wB,xx,N8,m56,ak,hl,hr];rw[aE (fun k=>if k=0 then LK N b l fl M else T48 N b l fl M k) l.length (by unfold LF;omega)]
   . rw[if_neg (by omega)];rw[vQ ?_ hz]
     . simp(disch:=apply zq;omega) only[go_sem,simprocAttr,↓wB,xx,ku,z1,z2,z3,z4,ntV]
     . simp(disch:=apply zq;omega) only[go_sem,simprocAttr,↓wB,xx,T48,fT,ku]
   . simp(disch:=apply zq;omega) only[go_sem,simprocAttr,↓wB,xx,LK,ku,B48,mL,AV.kids,Oe,dS,Kp.keys,Kp.owns,wM,iK,wY]
   . intro i hi;rcases wE i with rfl|hi0
     . exact h1
     . rw[if_neg (by omega),if_neg (by omega)];exact hs i hi
   . rw[if_neg (by omega)];simp(disch:=apply zq;omega) only[go_sem,simprocAttr,↓wB,xx,T48,fT,ku]
end
def Ce (g:Nt):List AV:=(dD g.a g.a.length g.n).map (lV .sc)
theorem kU (g:Nt):(Ce g).length=g.n:=by simp[Ce,bK]
abbrev nwL (g:Nt)(b:Bool)(sh:Sh)(f p:Bool)(fl pr:List Int):AV:=.cp sNw (.agg [.agg [i64 (g.n:Int),.lst b sh (rs g.a)],.lst f .sc (ns fl),.lst false .sc (Ce g),.lst p .sc (ns pr)])
abbrev wV (i t:Nat)(r c:Int)(bk:Bool):AV:=.agg [i64 (i:Int),i64 (t:Int),i64 r,i64 c,.bool bk]
theorem ie (h:1<=n){g:Nt}{b:Bool}{sh:Sh}{f p:Bool}{fl pr:List Int}{u i t:Nat}{r c:Int}{bk:Bool}(hu:u<pr.length)(ht:t<pr.length)
  (hc:-1073741824<=c/\c<=1073741824) (h1:0<=nth pr u/\nth pr u<=1099511627776) (h2:0<=nth pr t/\nth pr t<=1099511627776) :
  call gl tab n 86 [nwL g b sh f p fl pr,i64 (u:Int),wV i t r c bk] []=some (i64 (c+nth pr u-nth pr t),[],[]):=by
 obtain⟨d,rfl⟩:=wC h;have x1:=bc hu;have x2:=bc ht;rw[au (fd:=SV) rfl];simp(disch:=apply zq;omega) only[go_sem,simprocAttr,↓wB,xx,SV,m86,ae,x1,x2]
def tot (a:List Ar)(fl:List Int):Nat->Int
 | 0=>0
 | i+1=>tot a fl i+(art a i).k*nth fl i
noncomputable def L72:MC:=wq 0 m87
section
variable {d :Nat} {g:Nt} {b f p:Bool} {sh:Sh} {fl pr:List Int}
def S72 (g:Nt)(b:Bool)(sh:Sh)(f p:Bool)(fl pr:List Int)(i:Nat):St:=⟨[.set 12 (i64 (i:Int)),.set 11 (i64 (g.a.length:Int)),.set 10 (.lst b sh (rs g.a)),.set 3 (i64 (tot g.a fl i)),.set 0 (nwL g b sh f p fl pr)],[]⟩
theorem QK (hsh:g.a=[]\/sh=yA4)(hl:fl.length=g.a.length)(hM:g.a.length<=4000)(hk:∀i,i<g.a.length->0<=(art g.a i).k/\(art g.a i).k<=1048576)(hf:∀i,i<g.a.length->0<=nth fl i/\nth fl i<=1073741824){i:Nat}(hi:i<g.a.length)
  (ht:0<=tot g.a fl i/\tot g.a fl i<=(i:Int)*1125899906842624) :
  aK [.slot 0,.slot 3,.slot 10,.slot 11,.slot 12] (evC gl (call gl tab d) L72 (S72 g b sh f p fl pr i))=some (S72 g b sh f p fl pr (i+1))/\0<=tot g.a fl (i+1)/\tot g.a fl (i+1)<=((i+1:Nat):Int)*1125899906842624:=by
 have hsh:sh=yA4:=hsh.resolve_left (fun e=>by rw[e]at hi;simp at hi);subst hsh;have x1:=dY hi;have x2:=bc (show i<fl.length by omega);have h1:=hk i hi;have h2:=hf i hi;have h3:0<=(art g.a i).k*nth fl i:=Int.mul_nonneg h1.1 h2.1;have h4:(art g.a i).k*nth fl i<=1048576*1073741824:=Int.mul_le_mul h1.2 h2.2 h2.1 (by omega);have e:tot g.a fl (i+1)=tot g.a fl i+(art g.a i).k*nth fl i:=rfl;have e2:((i+1:Nat):Int)*1125899906842624=(i:Int)*1125899906842624+1125899906842624:=by omega
 have hs:S72 g b yA4 f p fl pr (i+1)=⟨[.set 12 (i64 ((i:Int)+1)),.set 11 (i64 (g.a.length:Int)),.set 10 (.lst b yA4 (rs g.a)),.set 3 (i64 (tot g.a fl i+(art g.a i).k*nth fl i)),.set 0 (nwL g b yA4 f p fl pr)],[]⟩:=rfl;refine⟨?_,by rw[e];omega,by rw[e,e2];omega⟩;rw[hs];have hb:(i:Int)<=4000:=by omega
 have w1:IntKind.wrap .i64 ((art g.a i).k*nth fl i)=(art g.a i).k*nth fl i:=w64 (by omega);have w2:IntKind.wrap .i64 (tot g.a fl i+(art g.a i).k*nth fl i)=tot g.a fl i+(art g.a i).k*nth fl i:=w64 (by omega);simp(disch:=apply zq;omega) only[go_sem,simprocAttr,↓wB,xx,L72,S72,ak,ae,hl,x1,x2,w1,w2]
theorem Hv (hk:∀i,i<g.a.length->0<=(art g.a i).k/\(art g.a i).k<=1048576)(hf:∀i,i<g.a.length->0<=nth fl i/\nth fl i<=1073741824):∀i,i<=g.a.length->0<=tot g.a fl i/\tot g.a fl i<=(i:Int)*1125899906842624
 | 0,_=>⟨Int.le_refl _,by simp[tot]⟩
 | i+1,hi=>by
   have ih:=Hv hk hf i (by omega);have h1:=hk i (by omega);have h2:=hf i (by omega);have h3:0<=(art g.a i).k*nth fl i:=Int.mul_nonneg h1.1 h2.1;have h4:(art g.a i).k*nth fl i<=1048576*1073741824:=Int.mul_le_mul h1.2 h2.2 h2.1 (by omega);have e2:((i+1:Nat):Int)*1125899906842624=(i:Int)*1125899906842624+1125899906842624:=by omega
   rw[tot,e2];omega
theorem zI (h:1<=n)(hsh:g.a=[]\/sh=yA4)(hl:fl.length=g.a.length)(hM:g.a.length<=4000)(hk:∀i,i<g.a.length->0<=(art g.a i).k/\(art g.a i).k<=1048576)(hf:∀i,i<g.a.length->0<=nth fl i/\nth fl i<=1073741824) :
  call gl tab n 87 [nwL g b sh f p fl pr] []=some (i64 (tot g.a fl g.a.length),[],[]):=by
 obtain⟨d,rfl⟩:=wC h;have hs:=fun i hi=>(@QK gl d g b f p sh fl pr hsh hl hM hk hf i hi (Hv hk hf i (by omega))).1
 simp only[L72,wq]at hs;rw[au (fd:=SU) rfl];simp(disch:=apply zq;omega) only[go_sem,simprocAttr,↓wB,xx,SU,m87,ak];rw[aE (S72 g b sh f p fl pr) g.a.length (by unfold LF;omega)]
 . simp(disch:=apply zq;omega) only[go_sem,simprocAttr,↓wB,xx,S72]
 . simp(disch:=apply zq;omega) only[go_sem,simprocAttr,↓wB,xx,S72,tot]
 . exact hs
 . simp(disch:=apply zq;omega) only[go_sem,simprocAttr,↓wB,xx,S72]
end
end Go.Proofs.S51
