/-
  Chapter 17: the specification's small functions. No condition.
-/
import Derived.Test.YthipjfnealbheaaGreatDoorW97G24x4
import Derived.Test.YthipjfnealbheaaGreatDoorW97G13x4
set_option linter.all false
open List renaming eraseIdx_of_length_le->wB,eraseIdx_append_of_length_le->wC,getElem?_eq_getElem->wD,length_eraseIdx->wE,take_length->wF,length_take->wG
open Nat renaming exists_eq_add_of_le'->wH,lt_or_ge->wJ
namespace Go.Proofs.S97
open Go Go.Ev Go.Proofs Go.Proofs.S97.Q
variable {gl :Gl} {n:Nat}
open Go.Mp (esN fN MOk)
def S30 (f:Bool)(m:Sh)(l:List Ob)(i:Nat):St:=⟨[.set 4 (i64 i),.set 3 (.sl 5003 [] 0 i),.set 0 (.lst f m (hs l))],[(5003,.grow .sc (nms (l.take i)))]⟩
theorem wo_s {l:List Ob}{j i:Nat}(hi:i<l.length)(hj:j<l.length):(l.take (i+1)).eraseIdx j=if i=j then(l.take i).eraseIdx j else(l.take i).eraseIdx j++[oat l i]:=by
 have e:l.take (i+1)=l.take i++[oat l i]:=by
  rw[List.take_succ,wD hi];unfold oat;rw[List.getD_eq_getElem?_getD,wD hi];rfl
 have hl:(l.take i).length=i:=by rw[wG];omega
 rw[e]
 by_cases h:i=j
 . subst h
   rw[if_pos rfl,wC (by omega),hl,Nat.sub_self,wB (l:=l.take i) (by omega)]
   simp
 . rw[if_neg h]
   by_cases h2:j<i
   . rw[List.eraseIdx_append_of_lt_length (by omega)]
   . rw[wC (by omega),hl,wB (l:=l.take i) (by omega),wB (by simp;omega)]
theorem qex {l:List Ob}{j i:Nat}(hi:i<=l.length):((l.take i).eraseIdx j).length<=i:=by
 rw[wE,wG];split<;>omega
abbrev Zs0 :AV:=.agg [i64 0,.lst true .sc [],.lst true .sc [],.agg [i64 0,i64 0,i64 0,.lst true .sc []]]
def L43w :MC:=match m43 with| .seq _ (.seq _ (.seq _ (.seq (.seq _ (.block _ (.loop _ b))) _)))=>b|_=>.skip
def S43w (S:Sf)(q:Fl)(j:Nat)(i:Nat):St :=
 ⟨[.set 7 (i64 i),.set 6 (.sl 5006 [] 0 ((S.H.take i).eraseIdx j).length),.set 5 (.ptr 5 []),.set 4 (.ptr 4 []),.set 2 (.ptr 2 []),.set 1 (i64 j)],
   [(5,.fix sO (oV (oat S.H j))),(4,.fix shB Zs0),(2,.fix shB (sfV S q)),(5006,.grow sO (hs ((S.H.take i).eraseIdx j)))]⟩
theorem qap {d:Nat}{S:Sf}{q:Fl}(hq:Mk S.H q.mh sO)(hl:S.H.length<=4096){j:Nat}(hj:j<S.H.length)(i:Nat)(hi:i<S.H.length) :
  zba [.slot 1,.slot 2,.slot 4,.slot 5,.own 6 5006 sO,.slot 7,.key 2,.key 4,.key 5] (evC gl (call gl tab d) L43w (S43w S q j i))=some (S43w S q j (i+1)):=by
 have hx:=zdu hi
 have hm:=hq.eq hi
 have e:=wo_s hi hj
 have hw:=qex (l:=S.H) (j:=j) (show i<=S.H.length by omega)
 unfold S43w
 rw[e]
 by_cases h:i=j
 . subst h
   have e1:((i:Int) != (i:Int))=false:=by simp
   rw[if_pos rfl]
   generalize (S.H.take i).eraseIdx i=w at *
   generalize oat S.H i=o at *
   simp(disch:=apply zq;omega) only[go_sem,simprocAttr,↓Nat.reduceEqDiff,xx,L43w,m43,zaa,hx,e1,hm]
 . have e1:((i:Int) != (j:Int))=true:=bne_iff_ne.2 (fun h'=>h (by omega))
   rw[if_neg h]
   have ha:=zrr ((S.H.take i).eraseIdx j) (oat S.H i)
   generalize (S.H.take i).eraseIdx j=w at *
   have hlim:w.length+1<=LIM:=by unfold LIM;omega
   have htk:=zme w (oV (oat S.H i))
   generalize oat S.H i=o at *
   rw[List.length_append,List.length_singleton]
   simp(disch:=apply zq;omega) only[go_sem,simprocAttr,↓Nat.reduceEqDiff,xx,L43w,m43,zaa,hx,e1,hm,hlim,htk,ha,oV]
theorem qbr (h:1<=n){f:Bool}{m:Sh}{l:List A3}(hm:Mk l m sA)(hv:VA l){k:Nat}(hk:k<l.length){t:Int}(hkt:(aat l k).t=t):call gl tab n 29 [.lst f m (ac l),i64 t] []=some (i64 k,[],[]):=by
 have hn:=hv.n
 obtain⟨k',h1,h2,h3,c⟩:=@zs8 gl n h f m l hm (by omega) t
 have h4:k'<l.length:=by
  rcases wJ k' l.length with h'|h'
  . exact h'
  . exact absurd hkt (h2 k (by omega))
 have e:=zjg hv hk h4 (hkt.trans (h3 h4).symm)
 subst e
 rw[ix,if_pos h4]at c
 exact c
theorem zk5 (l:List A3):(ac l).take l.length=ac l:=by rw[<-zad];exact wF
set_option maxHeartbeats 1000000 in
theorem zwp (h:2<=n){S:Sf}{fh fl:Bool}{mh:Sh}(hv:VSf S)(hmh:Mk S.H mh sO){j k:Nat}(hj:j<S.H.length)(hk:k<S.A.length)(hkt:(aat S.A k).t=(oat S.H j).tn) :
  call gl tab n 43 [sfV S (qq fh fl mh),i64 j] []=some (sfV (drp S j k) (qq false fl sO),[],[]):=by
 obtain⟨d,rfl⟩:=wH h
 have hH:=hv.hn
 have hA:=hv.va.n
 have hR:RL S.H:=fun i hi=>(hv.ho i hi).r
 have hst:=fun i hi=>@qap gl (d+1) S (qq fh fl mh) hmh hH j hj i hi
 have hxj:=zdu hj
 have hmj:=hmh.eq hj
 subst hmj
 have etk:S.H.take S.H.length=S.H:=wF
 have hel:(S.H.eraseIdx j).length=S.H.length-1:=by rw[wE,if_pos hj]
 have hRe:RL (S.H.eraseIdx j):=fun i hi=>by
  rw[zfo hj];split
  . exact hR i (by omega)
  . exact hR (i+1) (by omega)
 have c1:=@qbr gl (d+1) (by omega) false sA S.A (.inr rfl) hv.va k hk _ hkt
 have c2:=@zsl gl (d+1) (by omega) false sO (S.H.eraseIdx j) (.inr rfl) (by omega) hRe (oat S.H j).tn
 have hus:usd (S.H.eraseIdx j) (oat S.H j).tn (S.H.eraseIdx j).length=(aat S.A k).u+-(oat S.H j).sz:=by
  rw[hel,zk7 hj,if_pos rfl,hv.hu k hk,hkt];omega
 rw[hus]at c2
 have hxk:=zej hk
 have e1:=zzd S.A k (-(oat S.H j).sz)
 have e2:=zk5 (updA S.A k (-(oat S.H j).sz))
 rw[za3]at e2
 have e3:=zk5 S.A
 have e4:=zdz (S.H.eraseIdx j)
 have hsz:=(hR j hj).sz
 have hlimA:S.A.length<=LIM:=by unfold LIM;omega
 unfold drp
 simp only[L43w,m43]at hst
 rw[zaf (fd:=fd43) rfl]
 simp(disch:=apply zq;omega) only[go_sem,simprocAttr,↓Nat.reduceEqDiff,xx,fd43,m43,zaa,hxj]
 rw[zaj (S43w S (qq fh fl sO) j) S.H.length (by unfold LF;omega)]
 . rw[S43w,etk]
   generalize S.H.eraseIdx j=D at *
   simp(disch:=apply zq;omega) only[go_sem,simprocAttr,↓Nat.reduceEqDiff,xx,zaa,zad,c1,c2,hxk,e1,e2,e3,e4,hlimA,za3]
 . simp(disch:=apply zq;omega) only[go_sem,simprocAttr,↓Nat.reduceEqDiff,xx,S43w,oV,zez,List.eraseIdx_nil,List.take_zero,List.length_nil]
 . exact hst
 . simp(disch:=apply zq;omega) only[go_sem,simprocAttr,↓Nat.reduceEqDiff,xx,S43w,zaa]
end Go.Proofs.S97
namespace Go.Proofs.S97
open Go Go.Ev Go.Proofs Go.Proofs.S97.Q
variable {gl :Gl} {n:Nat}
open Go.Mp (esN fN MOk)
abbrev q0 :Fl:=qq false false sO
structure SK (S0 S:Sf):Prop where
 c:S.c=S0.c
 w:S.w=S0.w
 s:S.s=S0.s
 a:S.a=S0.a
 L:S.L=S0.L
theorem SK.cnt {S0 S:Sf}(h:SK S0 S):cnt S=cnt S0:=by funext x;unfold S97.cnt;rw[h.L,h.w]
theorem SK.next {S0:Sf}{h:Ob}{v:Vt}(k:SK S0 v.S):SK S0 (nxt h v).S:=⟨k.c,k.w,k.s,k.a,k.L⟩
end Go.Proofs.S97
namespace Go.Proofs.S97
open Go Go.Ev Go.Proofs Go.Proofs.S97.Q
variable {gl :Gl} {n:Nat}
open Go.Mp (esN fN MOk)
end Go.Proofs.S97
namespace Go.Proofs.S97
open Go Go.Ev Go.Proofs Go.Proofs.S97.Q
variable {gl :Gl} {n:Nat}
open Go.Mp (esN fN MOk)
theorem zu0 (h:1<=n){f:Bool}{m:Sh}{l:List Ob}(hm:Mk l m sO)(hl:l.length<2^60){x:List UInt8}(hx:¬∃j,j<l.length/\(oat l j).nm=x):call gl tab n 42 [.lst f m (hs l),.str x] []=some (i64 (-1),[],[]):=by
 obtain⟨k,h1,h2,h3,c⟩:=@zu1 gl n h f m l hm hl x
 rw[ix,if_neg (fun h'=>hx ⟨k,h',h3 h'⟩)]at c
 exact c
theorem zqq (h:1<=n){f:Bool}{m:Sh}{l:List Ob}(hm:Mk l m sO)(hl:l.length<2^60)(hsr:Srt l){j:Nat}(hj:j<l.length):call gl tab n 42 [.lst f m (hs l),.str (oat l j).nm] []=some (i64 j,[],[]):=by
 obtain⟨k,h1,h2,h3,c⟩:=@zu1 gl n h f m l hm hl (oat l j).nm
 have h4:k<l.length:=by
  rcases wJ k l.length with h'|h'
  . exact h'
  . exact absurd rfl (h2 j (by omega))
 have e1:=zts hsr h4
 have e2:=zts hsr hj
 rw[h3 h4]at e1
 have e:k=j:=by omega
 rw[ix,if_pos h4,e]at c
 exact c
end Go.Proofs.S97
namespace Go.Proofs.S97
open Go Go.Ev Go.Proofs Go.Proofs.S97.Q
variable {gl :Gl} {n:Nat}
open Go.Mp (esN fN MOk)
end Go.Proofs.S97
namespace Go.Proofs.S97
open Go Go.Ev Go.Proofs Go.Proofs.S97.Q
variable {gl :Gl} {n:Nat}
open Go.Mp (esN fN MOk)
theorem zw3 (hn:3<=n){S:Sf}{x:List UInt8}(hv:VSf S)(hx:¬hasN S x):call gl tab n 15 [sfV S q0,.str x] []=some (.agg [sfV S q0,i64 5],[],[]):=by
 obtain⟨d,rfl⟩:=wH hn
 have hH:=hv.hn
 have c:=@zu0 gl (d+2) (by omega) false sO S.H (.inr rfl) (by omega) x hx
 rw[zaf (fd:=fd15) rfl]
 simp(disch:=apply zq;omega) only[go_sem,simprocAttr,↓Nat.reduceEqDiff,xx,fd15,m15,c]
theorem zw2 (hn:3<=n){S:Sf}(hv:VSf S){j:Nat}(hj:j<S.H.length):call gl tab n 15 [sfV S q0,.str (oat S.H j).nm] []=some (.agg [sfV (drp S j (idxT S.A (oat S.H j).tn)) q0,i64 0],[],[]):=by
 obtain⟨d,rfl⟩:=wH hn
 have hH:=hv.hn
 obtain⟨g1,g2⟩:=zh7 hv.va (hv.ho j hj).t
 have c:=@zqq gl (d+2) (by omega) false sO S.H (.inr rfl) (by omega) (zcl hv.ho) j hj
 have c2:=@zwp gl (d+2) (by omega) S false false sO hv (.inr rfl) j _ hj g1 g2
 generalize drp S j (idxT S.A (oat S.H j).tn)=D at *
 rw[zaf (fd:=fd15) rfl]
 simp(disch:=apply zq;omega) only[go_sem,simprocAttr,↓Nat.reduceEqDiff,xx,fd15,m15,c,c2]
end Go.Proofs.S97
namespace Go.Proofs.S97
open Go Go.Ev Go.Proofs Go.Proofs.S97.Q
variable {gl :Gl} {n:Nat}
theorem zqe (h:4<=n){S:Sf}(hv:VSf S)(hl:S.L.length<=300):call gl tab n 12 [sfV S q0] []=some (.bool true,[],[]):=by
 have hA:=hv.va.n
 have hH:=hv.hn
 obtain⟨b,hb,c⟩:=@rvalid_at gl n h S q0 ⟨.inr rfl,.inr rfl⟩ (by omega) (by omega) (by omega)
 rw[hb.2 hv]at c
 exact c
theorem zuz (h:2<=n){S:Sf}(hv:VSf S)(hl:S.L.length<=300):call gl tab n 11 [sfV S q0,sfV S q0] []=some (.bool true,[],[]):=by
 have hA:=hv.va.n
 have hH:=hv.hn
 exact @same_at gl n h S q0 q0 ⟨.inr rfl,.inr rfl⟩ ⟨.inr rfl,.inr rfl⟩ (by omega) (by omega) (by omega)
end Go.Proofs.S97
namespace Go.Proofs.S97.K
open Go Go.Ev Go.Proofs
theorem qb6 {l:List Int}{N i:Nat}(h:i<N):nat (hlf l N) i=nat l i/2:=by rw[<-ztf,z0x h]
theorem mn_le {x y:Int}:mn x y<=x/\mn x y<=y:=by unfold mn;split<;>omega
theorem z86 {l:List Int}{p:Nat->Nat}:∀{k:Nat} (i:Nat),i<k->lea l p k<=nat l (p i)
 | k+1,i,h=>by
   rw[lea]
   have h1:=@mn_le (lea l p k) (nat l (p k))
   by_cases h2:i=k
   . subst h2;exact h1.2
   . have:=@z86 l p k i (by omega);omega
theorem qeq {l:List Int}{p:Nat->Nat}{c a:Int}(hc:c<=a)(h:∀k,k<l.length->nat l k<=a+1):∀i k,k<l.length->nat (ad l p c i) k<=a+1
 | 0,k,hk=>h k hk
 | i+1,k,hk=>by
   rw[ad];split
   . by_cases hj:p i=k
     . subst hj;rw[zxi (by rw[zf3];exact hk)];omega
     . rw[zng hj];exact qeq hc h i k hk
   . exact qeq hc h i k hk
theorem add_vs {w:Nat}{s a:Int}{l:List Int}(h:VS w s a l)(key:List UInt8):VS w s (addR w s a l key).1 (addR w s a l key).2:=by
 have hk:=h.sk
 have hcs:=z4i hk key
 have hal:=zhw w l key
 have hp:∀i,i<4->pl key w i<l.length:=fun i hi=>by rw[hk.kl];exact zlu hk.kw.1 hi
 have hle:lea l (pl key w) 4<=a:=by
  have h1:=z86 (l:=l) (p:=pl key w) (k:=4) 0 (by omega)
  have h2:=(h.vc _ (hp 0 (by omega))).2.2
  omega
 have hb:∀i,i<l.length->nat (adL w l key) i<=a+1:=fun i hi=>qeq hle (fun k hk=>by have:=(h.vc k hk).2.2;omega) 4 i hi
 have hva:=h.va
 have hvs:=h.vs
 unfold addR
 by_cases h1:a+1=s
 . rw[if_pos h1]
   refine⟨h.vp,h.vw,h.vs,by simp only;omega,by simp only[zci];exact h.vn,fun i hi=> ?_⟩
   simp only[zci]at hi ⊢
   have h2:=hcs i (by omega)
   have h3:=hb i hi
   unfold CO
   rw[qb6 hi];omega
 . rw[if_neg h1]
   refine⟨h.vp,h.vw,h.vs,by simp only;omega,by simp only[hal];exact h.vn,fun i hi=> ?_⟩
   simp only[hal]at hi ⊢
   exact⟨(hcs i (by omega)).1,(hcs i (by omega)).2,hb i hi⟩
theorem addR_len {w:Nat}{s a:Int}{l:List Int}{key:List UInt8}:(addR w s a l key).2.length=l.length:=by
 unfold addR
 split
 . exact zci _ _
 . exact zhw _ _ _
end Go.Proofs.S97.K
