/-
  Plants: the program's Check of a plant that is right. No condition.
-/
import Derived.Test.YtaloneiaejhopaaDoorW50t
set_option linter.all false
open Option renaming bind_some->wB
namespace Go.Proofs.S50
open Go Go.Ev Go.Proofs Go.Fl
variable {gl :Gl} {n:Nat}
theorem z6h (h:1<=n){x:Sp}(hx:SpOk x):call gl tab n 45 [sV x] []=some (.bool true,[],[]):=by
 obtain⟨d,rfl⟩:=Nat.exists_eq_add_of_le' h
 rw[zai (fd:=fd45) rfl]
 have h1:=hx.c
 rcases hx.k with ⟨k,h3,h4⟩|⟨k|k,h3,h4⟩
 . simp(disch:=apply zq;omega) only[go_sem,simprocAttr,↓Nat.reduceEqDiff,xx,fd45,m45,k]
 . simp(disch:=apply zq;omega) only[go_sem,simprocAttr,↓Nat.reduceEqDiff,xx,fd45,m45,k]
 . simp(disch:=apply zq;omega) only[go_sem,simprocAttr,↓Nat.reduceEqDiff,xx,fd45,m45,k]
def seen (p:List Sp):Nat->List (AV×AV×Nat)
 | 0=>[]
 | i+1=>seen p i++[(.agg [i64 (spt p i).kd,i64 (spt p i).nu,i64 0],.bool true,i)]
theorem zs5 {q:AV}{e:AV×AV×Nat}:∀{l:List (AV×AV×Nat)},zcg q l=some none->zh1 q e.1=some false->zcg q (l++[e])=some none
 | [],_,h=>by simp[zcg,h]
 | x::l,h,h2=>by
   rw[zcg]at h
   rw[List.cons_append,zcg]
   cases hk:zh1 q x.1 with
   | none=>rw[hk]at h;cases h
   | some b =>
     rw[hk,wB]at h
     rw[wB]
     cases b with
     | true=>simp at h
     | false =>
       simp only[Bool.false_eq_true,if_false]at h ⊢
       cases hf:zcg q l with
       | none=>rw[hf]at h;cases h
       | some r =>
         cases r with
         | none=>rw[zs5 hf h2];rfl
         | some z=>rw[hf]at h;cases h
theorem zrn {p:List Sp}{x:Sp}:∀{i:Nat},(∀k,k<i->¬((spt p k).kd=x.kd/\(spt p k).nu=x.nu))->zcg (.agg [i64 x.kd,i64 x.nu,i64 0]) (seen p i)=some none
 | 0,_=>rfl
 | i+1,h=>by
   rw[seen]
   refine zs5 (zrn fun k hk=>h k (by omega)) ?_
   have:=h i (by omega)
   show eqI _ _=_
   simp only[eqI,if_true,Option.map_some,Option.some.injEq]
   by_cases e1:x.kd=(spt p i).kd
   . by_cases e2:x.nu=(spt p i).nu
     . exact absurd ⟨e1.symm,e2.symm⟩ this
     . rw[show(x.nu==(spt p i).nu)=false from beq_eq_false_iff_ne.2 e2];simp
   . rw[show(x.kd==(spt p i).kd)=false from beq_eq_false_iff_ne.2 e1];simp
def L17 :MC:=match m17 with| .seq _ (.seq _ (.seq _ (.seq (.seq _ (.block _ (.loop _ b))) _)))=>b|_=>.skip
def L17b :MC:=match m17 with| .seq _ (.seq _ (.seq _ (.seq _ (.seq (.seq _ (.block _ (.loop _ b))) _))))=>b|_=>.skip
abbrev K17 :List Kp:=[.slot 1,.slot 3,.slot 20,.slot 21,.slot 22,.key 1,.key 18]
abbrev K17b :List Kp:=[.slot 1,.slot 37,.slot 38,.slot 39,.key 1]
def S17 (q:PF)(p:List Sp)(r:List Rd)(i:Nat):St:=⟨[.set 22 (i64 (i:Int)),.set 21 (i64 (p.length:Int)),.set 20 (.lst q.b q.s (ps p)),.set 3 (.mp 18),.set 1 (.ptr 1 [])],[(18,.mp (seen p i) i),(1,.fix sPl (plV q p r))]⟩
def S17b (q:PF)(p:List Sp)(r:List Rd)(i:Nat):St:=⟨[.set 39 (i64 (i:Int)),.set 38 (i64 (r.length:Int)),.set 37 (.lst q.c q.t (ds r)),.set 1 (.ptr 1 [])],[(1,.fix sPl (plV q p r))]⟩
section
variable {d :Nat} {q:PF} {p:List Sp} {r:List Rd} (hq:PFOk q p r) (hk:PK p r)
include hq hk
theorem qgo {i:Nat}(hi:i<p.length):zaz K17 (evC gl (call gl tab (d+1)) L17 (S17 q p r i))=some (S17 q p r (i+1)):=by
 have hp:=hk.ok.pn
 have hr:=hk.ok.rn
 have hs:=zl8 hq hp hr hi
 have x1:=zen hi
 have c1:=@z6h gl (d+1) (by omega) (spt p i) (hk.s i hi)
 have hf:=@zrn p (spt p i) i (fun k hki=>hk.ok.tw k i hki hi)
 have hsn:seen p (i+1)=seen p i++[(.agg [i64 (spt p i).kd,i64 (spt p i).nu,i64 0],.bool true,i)]:=rfl
 obtain⟨qb,qs,qc,qt⟩:=q
 simp only at hs
 subst hs
 simp(disch:=apply zq;omega) only[go_sem,simprocAttr,↓Nat.reduceEqDiff,xx,L17,m17,S17,zac,x1,c1,hf,hsn]
theorem qbq {i:Nat}(hi:i<r.length):zaz K17b (evC gl (call gl tab (d+1)) L17b (S17b q p r i))=some (S17b q p r (i+1)):=by
 have hp:=hk.ok.pn
 have hr:=hk.ok.rn
 have hs:=z4i hq hp hr hi
 have x1:=z4j hi
 obtain⟨f0,f1,t0,t1,ne⟩:=hk.ok.rf i hi
 obtain⟨c0,c1,k0,k1⟩:=hk.ok.rc i hi
 obtain⟨a,z⟩:=hk.ok.rk i hi
 generalize rdt r i=x at *
 obtain⟨xf,xt,xc,xk⟩:=x
 simp only at *
 obtain⟨j,rfl⟩:=Int.eq_ofNat_of_zero_le f0
 obtain⟨k,rfl⟩:=Int.eq_ofNat_of_zero_le t0
 have hs2:=zl8 hq hp hr (show j<p.length by omega)
 have x2:=zen (show j<p.length by omega)
 have x3:=zen (show k<p.length by omega)
 have e:((j:Int)==(k:Int))=false:=by rw[beq_eq_false_iff_ne];omega
 simp only[Int.toNat_natCast]at a z
 obtain⟨qb,qs,qc,qt⟩:=q
 simp only at hs hs2
 subst hs hs2
 have m1:∃m:Int,0<=m/\zgt zmg (i64 (j:Int)) [i64 (k:Int),i64 xc,i64 xk]=some (i64 m):=by
  refine⟨mi (mi (mi (j:Int) (k:Int)) xc) xk,?_,?_⟩
  . have h4:∀a b:Int,0<=a->0<=b->0<=mi a b:=fun a b ha hb=>by unfold mi;split<;>assumption
    exact h4 _ _ (h4 _ _ (h4 _ _ (by omega) (by omega)) c0) k0
  . simp only[zgt,zmg,wB,if_true]
    rfl
 have m2:∃m:Int,m<p.length/\zgt zp8 (i64 (j:Int)) [i64 (k:Int)]=some (i64 m):=by
  refine⟨if(k:Int)>j then k else j,by split<;>omega,?_⟩
  simp only[zgt,zp8,wB,if_true]
 obtain⟨m1,h1,e1⟩:=m1
 obtain⟨m2,h2,e2⟩:=m2
 simp(disch:=apply zq;omega) only[go_sem,simprocAttr,↓Nat.reduceEqDiff,xx,L17b,m17,S17b,zac,zaq,x1,x2,x3,e,e1,e2]
end
theorem zr9 (h:2<=n){q:PF}{p:List Sp}{r:List Rd}(hq:PFOk q p r)(hk:PK p r):call gl tab n 17 [plV q p r] []=some (i64 0,[],[]):=by
 obtain⟨d,rfl⟩:=Nat.exists_eq_add_of_le' h
 have hp:=hk.ok.pn
 have hr:=hk.ok.rn
 have hs1:=fun i hi=>@qgo gl d q p r hq hk i hi
 have hs2:=fun i hi=>@qbq gl d q p r hq hk i hi
 simp only[L17,L17b,m17]at hs1 hs2
 rw[zai (fd:=fd17) rfl]
 simp(disch:=apply zq;omega) only[go_sem,simprocAttr,↓Nat.reduceEqDiff,xx,fd17,m17,zac,zaq]
 rw[zak (S17 q p r) p.length (by unfold LF;omega)]
 . simp(disch:=apply zq;omega) only[go_sem,simprocAttr,↓Nat.reduceEqDiff,xx,S17,zac,zaq]
   rw[zak (S17b q p r) r.length (by unfold LF;omega)]
   . simp(disch:=apply zq;omega) only[go_sem,simprocAttr,↓Nat.reduceEqDiff,xx,S17b,zaq]
   . simp(disch:=apply zq;omega) only[go_sem,simprocAttr,↓Nat.reduceEqDiff,xx,S17b,zaq]
   . exact hs2
   . simp(disch:=apply zq;omega) only[go_sem,simprocAttr,↓Nat.reduceEqDiff,xx,S17b,zaq]
 . simp(disch:=apply zq;omega) only[go_sem,simprocAttr,↓Nat.reduceEqDiff,xx,S17,seen]
 . exact hs1
 . simp(disch:=apply zq;omega) only[go_sem,simprocAttr,↓Nat.reduceEqDiff,xx,S17,zac]
end Go.Proofs.S50
