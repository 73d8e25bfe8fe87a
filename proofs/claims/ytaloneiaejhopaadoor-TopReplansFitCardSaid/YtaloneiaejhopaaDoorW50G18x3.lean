/-
  The law's sums. No condition.
-/
import Derived.Test.YtaloneiaejhopaaDoorW50yy
set_option linter.all false
open Int renaming add_zero->wB,le_trans->wC
open List renaming take_length->wD,take_of_length_le->wE,getD_eq_getElem?_getD->wF,take_zero->wG
namespace Go.Proofs.S50
open Go Go.Ev Go.Proofs Go.Fl
variable {gl :Gl} {n:Nat}
structure AB (l:List Al):Prop where
 n:l.length<=1000
 b:∀a∈l,0<=a.n/\a.n<=1099511627776
theorem z0u {l:List Al}{o:Int}{t:Nat}(h:t<l.length):sO o (l.take (t+1))=sO o (l.take t)+if(alt l t).o=o then(alt l t).n else 0:=by
 rw[zvt h,zvy,sO,sO];omega
theorem sO_b {l:List Al}(h:AB l)(o:Int):∀t,t<=l.length->0<=sO o (l.take t)/\sO o (l.take t)<=(t:Int)*1099511627776
 | 0,_=>by simp[sO]
 | t+1,ht=>by
   have ih:=sO_b h o t (by omega)
   have:=h.b _ (zgr (show t<l.length by omega))
   rw[z0u (by omega)];split<;>omega
structure W3 where
 u:PF
 p:List Sp
 r:List Rd
 v:PF
 q:List Sp
 s:List Rd
 A:List Al
 B:List Al
abbrev sX3 :Sh:=.st [.st [.sc,.sc],.sc]
abbrev aX3 (w:W3):AV:=.aggR [.aggR [plV w.u w.p w.r,.sl 48 [] 0 w.A.length],.aggR [plV w.v w.q w.s,.sl 51 [] 0 w.B.length]]
abbrev K3 :List Kp:=[.slot 9,.slot 10,.slot 58,.slot 59,.slot 60,.key 48,.key 51,.key 58]
abbrev K3b :List Kp:=[.slot 9,.slot 10,.slot 12,.slot 58,.slot 59,.slot 60,.slot 66,.slot 67,.slot 68,.key 12,.key 48,.key 51,.key 58]
abbrev K3c :List Kp:=[.slot 9,.slot 10,.slot 12,.slot 14,.slot 15,.slot 16,.slot 58,.slot 59,.slot 60,.slot 66,.slot 67,.slot 68,.slot 74,.slot 75,.slot 76,.key 12,.key 14,.key 48,.key 51,.key 58,.key 74]
abbrev K3d :List Kp:=[.slot 9,.slot 10,.slot 12,.slot 14,.slot 15,.slot 16,.slot 58,.slot 59,.slot 60,.slot 66,.slot 67,.slot 68,.slot 91,.slot 92,.slot 93,.key 12,.key 14,.key 48,.key 51,.key 58]
def S3 (w:W3)(k:Nat):St:=⟨[.set 60 (i64 (k:Int)),.set 59 (i64 2),.set 58 (.sl 58 [] 0 2),.set 10 (.sl 51 [] 0 w.B.length),.set 9 (.sl 48 [] 0 w.A.length)],
 [(58,.fix (.ar 2 sX3) (aX3 w)),(51,.grow yA3 (als w.B)),(48,.grow yA3 (als w.A))]⟩
def L3 :MC:=match m3 with| .seq _ (.seq _ (.seq _ (.seq _ (.seq _ (.seq _ (.seq (.seq _ (.block _ (.loop _ b))) _))))))=>b|_=>.skip
def L3b :MC:=match m3 with| .seq _ (.seq _ (.seq _ (.seq _ (.seq _ (.seq _ (.seq (.seq _ (.block _ (.loop _ (.seq _ (.seq _ (.seq (.block _ (.seq _ (.seq _ (.block _ (.loop _ b))))) _)))))) _))))))=>b|_=>.skip
def L3c :MC:=match m3 with| .seq _ (.seq _ (.seq _ (.seq _ (.seq _ (.seq _ (.seq (.seq _ (.block _ (.loop _ (.seq _ (.seq _ (.seq (.block _ (.seq _ (.seq _ (.block _ (.loop _ (.seq _ (.seq _ (.seq (.block _ (.seq _ (.seq _ (.seq (.seq _ (.block _ (.loop _ b))) _)))) _)))))))) _)))))) _))))))=>b|_=>.skip
def L3d :MC:=match m3 with| .seq _ (.seq _ (.seq _ (.seq _ (.seq _ (.seq _ (.seq (.seq _ (.block _ (.loop _ (.seq _ (.seq _ (.seq (.block _ (.seq _ (.seq _ (.block _ (.loop _ (.seq _ (.seq _ (.seq (.block _ (.seq _ (.seq _ (.seq _ (.seq (.seq _ (.block _ (.loop _ b))) _))))) _)))))))) _)))))) _))))))=>b|_=>.skip
structure W3Ok (w:W3):Prop where
 fu:PFOk w.u w.p w.r
 fv:PFOk w.v w.q w.s
 np:w.p.length<=6
 nq:w.q.length<=6
 a:AB w.A
 b:AB w.B
 x:AB (btw w.B w.A)
 c:∀i,i<w.p.length->(spt w.p i).kd=3->sO (spt w.p i).nu (btw w.B w.A)<=(spt w.p i).cp/\sO (spt w.p i).nu (btw w.B w.A)<=sO (spt w.p i).nu w.A/\sO (spt w.p i).nu w.A<=(spt w.p i).cp
 d:∀i,i<w.q.length->(spt w.q i).kd=3->sO (spt w.q i).nu (btw w.B w.A)<=(spt w.q i).cp/\sO (spt w.q i).nu (btw w.B w.A)<=sO (spt w.q i).nu w.B/\sO (spt w.q i).nu w.B<=(spt w.q i).cp
def S3b0 (w:W3)(j:Nat):St:=⟨[.set 68 (i64 (j:Int)),.set 67 (i64 (w.p.length:Int)),.set 66 (.lst w.u.b w.u.s (ps w.p)),.set 60 (i64 0),.set 59 (i64 2),.set 58 (.sl 58 [] 0 2),.set 12 (.ptr 12 []),.set 10 (.sl 51 [] 0 w.B.length),.set 9 (.sl 48 [] 0 w.A.length)],
 [(58,.fix (.ar 2 sX3) (aX3 w)),(51,.grow yA3 (als w.B)),(48,.grow yA3 (als w.A)),(12,.fix sX3 (.aggR [plV w.u w.p w.r,.sl 48 [] 0 w.A.length]))]⟩
def S3c0 (w:W3)(j t:Nat):St:=⟨[.set 76 (i64 (t:Int)),.set 75 (i64 ((btw w.B w.A).length:Int)),.set 74 (.sl 74 [] 0 (btw w.B w.A).length),.set 68 (i64 (j:Int)),.set 67 (i64 (w.p.length:Int)),.set 66 (.lst w.u.b w.u.s (ps w.p)),.set 60 (i64 0),.set 59 (i64 2),.set 58 (.sl 58 [] 0 2),.set 16 (i64 0),.set 15 (i64 (sO (spt w.p j).nu ((btw w.B w.A).take t))),.set 14 (.ptr 14 []),.set 12 (.ptr 12 []),.set 10 (.sl 51 [] 0 w.B.length),.set 9 (.sl 48 [] 0 w.A.length)],
 [(74,.grow yA3 (als (btw w.B w.A))),(58,.fix (.ar 2 sX3) (aX3 w)),(51,.grow yA3 (als w.B)),(48,.grow yA3 (als w.A)),(14,.fix yA3 (sV (spt w.p j))),(12,.fix sX3 (.aggR [plV w.u w.p w.r,.sl 48 [] 0 w.A.length]))]⟩
def S3d0 (w:W3)(j t:Nat):St:=⟨[.set 93 (i64 (t:Int)),.set 92 (i64 (w.A.length:Int)),.set 91 (.sl 48 [] 0 w.A.length),.set 68 (i64 (j:Int)),.set 67 (i64 (w.p.length:Int)),.set 66 (.lst w.u.b w.u.s (ps w.p)),.set 60 (i64 0),.set 59 (i64 2),.set 58 (.sl 58 [] 0 2),.set 16 (i64 (sO (spt w.p j).nu (w.A.take t))),.set 15 (i64 (sO (spt w.p j).nu (btw w.B w.A))),.set 14 (.ptr 14 []),.set 12 (.ptr 12 []),.set 10 (.sl 51 [] 0 w.B.length),.set 9 (.sl 48 [] 0 w.A.length)],
 [(58,.fix (.ar 2 sX3) (aX3 w)),(51,.grow yA3 (als w.B)),(48,.grow yA3 (als w.A)),(14,.fix yA3 (sV (spt w.p j))),(12,.fix sX3 (.aggR [plV w.u w.p w.r,.sl 48 [] 0 w.A.length]))]⟩
section
variable {d :Nat} {w:W3} (hw:W3Ok w)
include hw
theorem qbg {j t:Nat}(ht:t<(btw w.B w.A).length):zaz K3c (evC gl (call gl tab d) L3c (S3c0 w j t))=some (S3c0 w j (t+1)):=by
 have x1:=zjq ht
 have hn:=hw.x.n
 have hb:=sO_b hw.x (spt w.p j).nu t (by omega)
 have hm:=hw.x.b _ (zgr ht)
 have al:=zaw (btw w.B w.A)
 unfold S3c0
 rw[z0u ht]
 generalize sO (spt w.p j).nu ((btw w.B w.A).take t)=D at *
 generalize btw w.B w.A=X at *
 by_cases e:(alt X t).o=(spt w.p j).nu
 . have e1:((alt X t).o==(spt w.p j).nu)=true:=by simpa using e
   rw[if_pos e]
   simp(disch:=apply zq;omega) only[go_sem,simprocAttr,↓Nat.reduceEqDiff,xx,L3c,m3,al,x1,e1]
 . have e1:((alt X t).o==(spt w.p j).nu)=false:=by rw[beq_eq_false_iff_ne];exact e
   rw[if_neg e]
   simp(disch:=apply zq;omega) only[go_sem,simprocAttr,↓Nat.reduceEqDiff,xx,L3c,m3,al,x1,e1,wB]
theorem qbe {j t:Nat}(ht:t<w.A.length):zaz K3d (evC gl (call gl tab d) L3d (S3d0 w j t))=some (S3d0 w j (t+1)):=by
 have x1:=zjq ht
 have hn:=hw.a.n
 have hb:=sO_b hw.a (spt w.p j).nu t (by omega)
 have hm:=hw.a.b _ (zgr ht)
 have al:=zaw w.A
 unfold S3d0
 rw[z0u ht]
 generalize sO (spt w.p j).nu (w.A.take t)=D at *
 by_cases e:(alt w.A t).o=(spt w.p j).nu
 . have e1:((alt w.A t).o==(spt w.p j).nu)=true:=by simpa using e
   rw[if_pos e]
   simp(disch:=apply zq;omega) only[go_sem,simprocAttr,↓Nat.reduceEqDiff,xx,L3d,m3,al,x1,e1]
 . have e1:((alt w.A t).o==(spt w.p j).nu)=false:=by rw[beq_eq_false_iff_ne];exact e
   rw[if_neg e]
   simp(disch:=apply zq;omega) only[go_sem,simprocAttr,↓Nat.reduceEqDiff,xx,L3d,m3,al,x1,e1,wB]
set_option maxHeartbeats 1000000 in
theorem qbi {j:Nat}(hj:j<w.p.length):zaz K3b (evC gl (call gl tab (d+3)) L3b (S3b0 w j))=some (S3b0 w (j+1)):=by
 have hs:w.u.s=sSp:=hw.fu.s.resolve_left fun h=>by rw[h]at hj;simp at hj
 have x1:=zen hj
 have hp:=hw.np
 have hc:=hw.c j hj
 have c8:=@zo0 gl (d+3) ⟨false,yA3,false,yA3⟩ w.A w.B (.inr rfl) (.inr rfl) (by have:=hw.a.n;omega) (by have:=hw.b.n;omega) (by omega)
 have hb:=sO_b hw.a (spt w.p j).nu w.A.length (Nat.le_refl _)
 rw[wD]at hb
 have hb2:=sO_b hw.x (spt w.p j).nu (btw w.B w.A).length (Nat.le_refl _)
 rw[wD]at hb2
 have hs1:=fun t ht=>@qbg gl (d+3) w hw j t ht
 have hs2:=fun t ht=>@qbe gl (d+3) w hw j t ht
 simp only[L3c,L3d,m3]at hs1 hs2
 have hwn:=hw.x.n
 have hmn:=hw.a.n
 have a1:=zaw w.A
 have a2:=zaw w.B
 have a3:=zaw (btw w.B w.A)
 have t1:List.take w.A.length (als w.A)=als w.A:=wE (by omega)
 have t2:List.take w.B.length (als w.B)=als w.B:=wE (by omega)
 have ec:S3c0 w j (btw w.B w.A).length=S3c0 w j (btw w.B w.A).length:=rfl
 have e0:sO (spt w.p j).nu []=0:=rfl
 have eq1:(spt w.p j).kd=3\/((spt w.p j).kd==3)=false:=by
  by_cases e:(spt w.p j).kd=3
  . exact .inl e
  . exact .inr (beq_eq_false_iff_ne.2 e)
 unfold S3b0
 rw[hs]
 simp(disch:=apply zq;omega) only[go_sem,simprocAttr,↓Nat.reduceEqDiff,xx,L3b,m3,zac,x1,c8,a1,a2,t1,t2,zkm]
 rw[zak (S3c0 w j) (btw w.B w.A).length (by unfold LF;omega)]
 . simp(disch:=apply zq;omega) only[go_sem,simprocAttr,↓Nat.reduceEqDiff,xx,S3c0,a3,wD]
   rw[zak (S3d0 w j) w.A.length (by unfold LF;omega)]
   . rcases eq1 with e|e
     . obtain⟨h1,h2,h3⟩:=hc e
       simp(disch:=apply zq;omega) only[go_sem,simprocAttr,↓Nat.reduceEqDiff,xx,S3d0,wD,hs]
     . simp(disch:=apply zq;omega) only[go_sem,simprocAttr,↓Nat.reduceEqDiff,xx,S3d0,wD,hs,e]
   . simp(disch:=apply zq;omega) only[go_sem,simprocAttr,↓Nat.reduceEqDiff,xx,S3d0,wG,e0,hs]
   . exact hs2
   . simp(disch:=apply zq;omega) only[go_sem,simprocAttr,↓Nat.reduceEqDiff,xx,S3d0,wD]
 . simp(disch:=apply zq;omega) only[go_sem,simprocAttr,↓Nat.reduceEqDiff,xx,S3c0,wG,e0,hs]
 . exact hs1
 . simp(disch:=apply zq;omega) only[go_sem,simprocAttr,↓Nat.reduceEqDiff,xx,S3c0,wD]
theorem qgk :zaz K3 (evC gl (call gl tab (d+3)) L3 (S3 w 0))=some (S3 w (0+1)):=by
 have hs1:=fun j hj=>@qbi gl d w hw j hj
 simp only[L3b,m3]at hs1
 have hp:=hw.np
 simp(disch:=apply zq;omega) only[go_sem,simprocAttr,↓Nat.reduceEqDiff,xx,L3,m3,S3,zac]
 rw[zak (S3b0 w) w.p.length (by unfold LF;omega)]
 . simp(disch:=apply zq;omega) only[go_sem,simprocAttr,↓Nat.reduceEqDiff,xx,S3b0,zac]
 . simp(disch:=apply zq;omega) only[go_sem,simprocAttr,↓Nat.reduceEqDiff,xx,S3b0]
 . exact hs1
 . simp(disch:=apply zq;omega) only[go_sem,simprocAttr,↓Nat.reduceEqDiff,xx,S3b0,zac]
end
def S3b1 (w:W3)(j:Nat):St:=⟨[.set 68 (i64 (j:Int)),.set 67 (i64 (w.q.length:Int)),.set 66 (.lst w.v.b w.v.s (ps w.q)),.set 60 (i64 1),.set 59 (i64 2),.set 58 (.sl 58 [] 0 2),.set 12 (.ptr 12 []),.set 10 (.sl 51 [] 0 w.B.length),.set 9 (.sl 48 [] 0 w.A.length)],
 [(58,.fix (.ar 2 sX3) (aX3 w)),(51,.grow yA3 (als w.B)),(48,.grow yA3 (als w.A)),(12,.fix sX3 (.aggR [plV w.v w.q w.s,.sl 51 [] 0 w.B.length]))]⟩
def S3c1 (w:W3)(j t:Nat):St:=⟨[.set 76 (i64 (t:Int)),.set 75 (i64 ((btw w.B w.A).length:Int)),.set 74 (.sl 74 [] 0 (btw w.B w.A).length),.set 68 (i64 (j:Int)),.set 67 (i64 (w.q.length:Int)),.set 66 (.lst w.v.b w.v.s (ps w.q)),.set 60 (i64 1),.set 59 (i64 2),.set 58 (.sl 58 [] 0 2),.set 16 (i64 0),.set 15 (i64 (sO (spt w.q j).nu ((btw w.B w.A).take t))),.set 14 (.ptr 14 []),.set 12 (.ptr 12 []),.set 10 (.sl 51 [] 0 w.B.length),.set 9 (.sl 48 [] 0 w.A.length)],
 [(74,.grow yA3 (als (btw w.B w.A))),(58,.fix (.ar 2 sX3) (aX3 w)),(51,.grow yA3 (als w.B)),(48,.grow yA3 (als w.A)),(14,.fix yA3 (sV (spt w.q j))),(12,.fix sX3 (.aggR [plV w.v w.q w.s,.sl 51 [] 0 w.B.length]))]⟩
def S3d1 (w:W3)(j t:Nat):St:=⟨[.set 93 (i64 (t:Int)),.set 92 (i64 (w.B.length:Int)),.set 91 (.sl 51 [] 0 w.B.length),.set 68 (i64 (j:Int)),.set 67 (i64 (w.q.length:Int)),.set 66 (.lst w.v.b w.v.s (ps w.q)),.set 60 (i64 1),.set 59 (i64 2),.set 58 (.sl 58 [] 0 2),.set 16 (i64 (sO (spt w.q j).nu (w.B.take t))),.set 15 (i64 (sO (spt w.q j).nu (btw w.B w.A))),.set 14 (.ptr 14 []),.set 12 (.ptr 12 []),.set 10 (.sl 51 [] 0 w.B.length),.set 9 (.sl 48 [] 0 w.A.length)],
 [(58,.fix (.ar 2 sX3) (aX3 w)),(51,.grow yA3 (als w.B)),(48,.grow yA3 (als w.A)),(14,.fix yA3 (sV (spt w.q j))),(12,.fix sX3 (.aggR [plV w.v w.q w.s,.sl 51 [] 0 w.B.length]))]⟩
section
variable {d :Nat} {w:W3} (hw:W3Ok w)
include hw
theorem qbf {j t:Nat}(ht:t<(btw w.B w.A).length):zaz K3c (evC gl (call gl tab d) L3c (S3c1 w j t))=some (S3c1 w j (t+1)):=by
 have x1:=zjq ht
 have hn:=hw.x.n
 have hb:=sO_b hw.x (spt w.q j).nu t (by omega)
 have hm:=hw.x.b _ (zgr ht)
 have al:=zaw (btw w.B w.A)
 unfold S3c1
 rw[z0u ht]
 generalize sO (spt w.q j).nu ((btw w.B w.A).take t)=D at *
 generalize btw w.B w.A=X at *
 by_cases e:(alt X t).o=(spt w.q j).nu
 . have e1:((alt X t).o==(spt w.q j).nu)=true:=by simpa using e
   rw[if_pos e]
   simp(disch:=apply zq;omega) only[go_sem,simprocAttr,↓Nat.reduceEqDiff,xx,L3c,m3,al,x1,e1]
 . have e1:((alt X t).o==(spt w.q j).nu)=false:=by rw[beq_eq_false_iff_ne];exact e
   rw[if_neg e]
   simp(disch:=apply zq;omega) only[go_sem,simprocAttr,↓Nat.reduceEqDiff,xx,L3c,m3,al,x1,e1,wB]
theorem qbd {j t:Nat}(ht:t<w.B.length):zaz K3d (evC gl (call gl tab d) L3d (S3d1 w j t))=some (S3d1 w j (t+1)):=by
 have x1:=zjq ht
 have hn:=hw.b.n
 have hb:=sO_b hw.b (spt w.q j).nu t (by omega)
 have hm:=hw.b.b _ (zgr ht)
 have al:=zaw w.B
 unfold S3d1
 rw[z0u ht]
 generalize sO (spt w.q j).nu (w.B.take t)=D at *
 by_cases e:(alt w.B t).o=(spt w.q j).nu
 . have e1:((alt w.B t).o==(spt w.q j).nu)=true:=by simpa using e
   rw[if_pos e]
   simp(disch:=apply zq;omega) only[go_sem,simprocAttr,↓Nat.reduceEqDiff,xx,L3d,m3,al,x1,e1]
 . have e1:((alt w.B t).o==(spt w.q j).nu)=false:=by rw[beq_eq_false_iff_ne];exact e
   rw[if_neg e]
   simp(disch:=apply zq;omega) only[go_sem,simprocAttr,↓Nat.reduceEqDiff,xx,L3d,m3,al,x1,e1,wB]
set_option maxHeartbeats 1000000 in
theorem qbh {j:Nat}(hj:j<w.q.length):zaz K3b (evC gl (call gl tab (d+3)) L3b (S3b1 w j))=some (S3b1 w (j+1)):=by
 have hs:w.v.s=sSp:=hw.fv.s.resolve_left fun h=>by rw[h]at hj;simp at hj
 have x1:=zen hj
 have hp:=hw.nq
 have hc:=hw.d j hj
 have c8:=@zo0 gl (d+3) ⟨false,yA3,false,yA3⟩ w.A w.B (.inr rfl) (.inr rfl) (by have:=hw.a.n;omega) (by have:=hw.b.n;omega) (by omega)
 have hb:=sO_b hw.b (spt w.q j).nu w.B.length (Nat.le_refl _)
 rw[wD]at hb
 have hb2:=sO_b hw.x (spt w.q j).nu (btw w.B w.A).length (Nat.le_refl _)
 rw[wD]at hb2
 have hs1:=fun t ht=>@qbf gl (d+3) w hw j t ht
 have hs2:=fun t ht=>@qbd gl (d+3) w hw j t ht
 simp only[L3c,L3d,m3]at hs1 hs2
 have hwn:=hw.x.n
 have hmn:=hw.b.n
 have a1:=zaw w.A
 have a2:=zaw w.B
 have a3:=zaw (btw w.B w.A)
 have t1:List.take w.A.length (als w.A)=als w.A:=wE (by omega)
 have t2:List.take w.B.length (als w.B)=als w.B:=wE (by omega)
 have ec:S3c1 w j (btw w.B w.A).length=S3c1 w j (btw w.B w.A).length:=rfl
 have e0:sO (spt w.q j).nu []=0:=rfl
 have eq1:(spt w.q j).kd=3\/((spt w.q j).kd==3)=false:=by
  by_cases e:(spt w.q j).kd=3
  . exact .inl e
  . exact .inr (beq_eq_false_iff_ne.2 e)
 unfold S3b1
 rw[hs]
 simp(disch:=apply zq;omega) only[go_sem,simprocAttr,↓Nat.reduceEqDiff,xx,L3b,m3,zac,x1,c8,a1,a2,t1,t2,zkm]
 rw[zak (S3c1 w j) (btw w.B w.A).length (by unfold LF;omega)]
 . simp(disch:=apply zq;omega) only[go_sem,simprocAttr,↓Nat.reduceEqDiff,xx,S3c1,a3,wD]
   rw[zak (S3d1 w j) w.B.length (by unfold LF;omega)]
   . rcases eq1 with e|e
     . obtain⟨h1,h2,h3⟩:=hc e
       simp(disch:=apply zq;omega) only[go_sem,simprocAttr,↓Nat.reduceEqDiff,xx,S3d1,wD,hs]
     . simp(disch:=apply zq;omega) only[go_sem,simprocAttr,↓Nat.reduceEqDiff,xx,S3d1,wD,hs,e]
   . simp(disch:=apply zq;omega) only[go_sem,simprocAttr,↓Nat.reduceEqDiff,xx,S3d1,wG,e0,hs]
   . exact hs2
   . simp(disch:=apply zq;omega) only[go_sem,simprocAttr,↓Nat.reduceEqDiff,xx,S3d1,wD]
 . simp(disch:=apply zq;omega) only[go_sem,simprocAttr,↓Nat.reduceEqDiff,xx,S3c1,wG,e0,hs]
 . exact hs1
 . simp(disch:=apply zq;omega) only[go_sem,simprocAttr,↓Nat.reduceEqDiff,xx,S3c1,wD]
theorem qgj :zaz K3 (evC gl (call gl tab (d+3)) L3 (S3 w 1))=some (S3 w (1+1)):=by
 have hs1:=fun j hj=>@qbh gl d w hw j hj
 simp only[L3b,m3]at hs1
 have hp:=hw.nq
 simp(disch:=apply zq;omega) only[go_sem,simprocAttr,↓Nat.reduceEqDiff,xx,L3,m3,S3,zac]
 rw[zak (S3b1 w) w.q.length (by unfold LF;omega)]
 . simp(disch:=apply zq;omega) only[go_sem,simprocAttr,↓Nat.reduceEqDiff,xx,S3b1,zac]
 . simp(disch:=apply zq;omega) only[go_sem,simprocAttr,↓Nat.reduceEqDiff,xx,S3b1]
 . exact hs1
 . simp(disch:=apply zq;omega) only[go_sem,simprocAttr,↓Nat.reduceEqDiff,xx,S3b1,zac]
end
end Go.Proofs.S50
namespace Go.Proofs.S50
open Go Go.Ev Go.Proofs Go.Fl
variable {gl :Gl} {n:Nat}
theorem qal {B:Int}{b:List Al}(hb:∀y∈b,0<=y.n):∀{a:List Al},(∀x∈a,0<=x.n/\x.n<=B)->∀z∈btw b a,0<=z.n/\z.n<=B
 | [],_,z,hz=>by simp[btw]at hz
 | x::a,h,z,hz=>by
   rw[btw,List.mem_append]at hz
   rcases hz with hz|hz
   . cases hf:fnd b x.g x.o with
     | none=>rw[hf]at hz;simp at hz
     | some i =>
       rw[hf]at hz
       simp only[List.mem_singleton]at hz
       subst hz
       have h1:=h x (by simp)
       have h2:=hb _ (zgr (zji hf).1)
       simp only
       unfold mi
       split<;>omega
   . exact qal hb (fun y hy=>h y (by simp[hy])) z hz
structure SF (p:List Sp)(r:List Rd)(fl:List Int):Prop where
 fb:FB (net p r) fl
 z:∀v,v≠0->v≠1->giv (netA p r) fl v (netA p r).length=0
 x:∀i,0<=nth (rds p r fl) i/\nth (rds p r fl) i<=1073741824
theorem qg0 {q:PF}{p:List Sp}{r:List Rd}(hq:PFOk q p r)(hk:PK p r)(hp:p.length<=6)(hr:r.length<=20){A:Int}{fl pr:List Int}{sent:Int}{cut:List Nat}(h:SR (net p r) 0 1 A fl pr sent cut):SF p r fl where
 fb:=h.si.fb
 z:=fun v h0 h1=>by
  have:=h.si.gv v
  rw[if_neg h0,if_neg h1]at this
  exact this
 x:=fun i=>by
  have hg:=zie hq hk (by omega) (by omega)
  have e:nth (rds p r fl) i=nth fl (p.length+(ofK p 1 p.length).length+(ofK p 3 p.length).length+i):=by
   unfold rds nth
   rw[wF,wF,List.getElem?_drop]
  rw[e]
  generalize p.length+(ofK p 1 p.length).length+(ofK p 3 p.length).length+i=j
  by_cases hj:j<(net p r).a.length
  . have h1:=h.si.fb.b j hj
    have h2:=hg.c j hj
    omega
  . have:nth fl j=0:=by
     unfold nth
     rw[wF,List.getElem?_eq_none (by rw[h.si.fb.l];omega)];rfl
    omega
theorem qd2 (g:Nt)(fl pr:List Int)(sent:Int)(cut:List Nat):∃w:Fq,fV g fl pr sent cut=fqV w fl/\w.s=sent/\w.c=tot g.a fl g.a.length/\w.pr=pr/\w.cut=cut:=by
 cases h:(us cut).isEmpty with
 | true=>exact⟨⟨sent,tot g.a fl g.a.length,false,false,true,pr,cut⟩,by unfold fV lV fqV;rw[h];rw[List.isEmpty_iff]at h;rw[h];rfl,rfl,rfl,rfl,rfl⟩
 | false=>exact⟨⟨sent,tot g.a fl g.a.length,false,false,false,pr,cut⟩,by unfold fV lV fqV;rw[h];rfl,rfl,rfl,rfl,rfl⟩
theorem qkb {p:List Sp}{r:List Rd}{fl:List Int}(hr:r.length<=20)(h:SF p r fl):AB (alo p r (rds p r fl) r.length) where
 n:=by have:=zq8 p r (rds p r fl) r.length;omega
 b:=fun a ha=>by have:=qe8 h.x r.length a ha;omega
set_option maxHeartbeats 2000000 in
theorem qk9 (hn:100<=n)(c5:call gl tab n 5 [] []=some (.bool true,[],[])){u v:PF}{p q:List Sp}{r s:List Rd}(hu:PFOk u p r)(hv:PFOk v q s)
  (lp:p.length<=9223372036854775807) (lr:r.length<=9223372036854775807) (lq:q.length<=9223372036854775807) (ls:s.length<=9223372036854775807) :
  call gl tab (n+1) 3 [plV u p r,plV v q s] []=some (.bool true,[],[]):=by
 obtain⟨d,rfl⟩:=Nat.exists_eq_add_of_le' hn
 obtain⟨b1,h1,c1⟩:=@z2a gl (d+100) (by omega) u p r hu lp lr
 obtain⟨b2,h2,c2⟩:=@z2a gl (d+100) (by omega) v q s hv lq ls
 rw[zai (fd:=fd3) rfl]
 cases b1 with
 | false=>simp(disch:=apply zq;omega) only[go_sem,simprocAttr,↓Nat.reduceEqDiff,xx,fd3,m3,c1,c5]
 | true =>
 cases b2 with
 | false=>simp(disch:=apply zq;omega) only[go_sem,simprocAttr,↓Nat.reduceEqDiff,xx,fd3,m3,c1,c2,c5]
 | true =>
 have w1:=h1 rfl
 have w2:=h2 rfl
 obtain⟨fl,pr,sent,cut,s1,c3⟩:=@make_at gl (d+100) u p r hu w1.k w1.np w1.nr (by omega)
 obtain⟨fm,pm,sem,cum,s2,c4⟩:=@make_at gl (d+100) v q s hv w2.k w2.np w2.nr (by omega)
 have f1:=qg0 hu w1.k w1.np w1.nr s1
 have f2:=qg0 hv w2.k w2.np w2.nr s2
 obtain⟨x1,e1,_,_,_,_⟩:=qd2 (net p r) fl pr sent cut
 obtain⟨x2,e2,_,_,_,_⟩:=qd2 (net q s) fm pm sem cum
 rw[e1]at c3
 rw[e2]at c4
 have c6:=@ztq gl (d+100) (by omega) u p r hu w1.k x1 fl f1.fb.l f1.x
 have c7:=@ztq gl (d+100) (by omega) v q s hv w2.k x2 fm f2.fb.l f2.x
 have na:ND (alo p r (rds p r fl) r.length):=zxo (fun i=>(f1.x i).1) _
 have nb:ND (alo q s (rds q s fm) s.length):=zxo (fun i=>(f2.x i).1) _
 have aa:=qkb w1.nr f1
 have bb:=qkb w2.nr f2
 have l1:=fun i hi hkd=>@qan p r w1.k.ok fl f1.fb f1.z i hi hkd
 have l2:=fun i hi hkd=>@qan q s w2.k.ok fm f2.fb f2.z i hi hkd
 have rp:=fun o=>qhc w1.k.ok w2.k.ok f1.fb f2.fb f1.z f2.z na nb o
 generalize alo p r (rds p r fl) r.length=A at *
 generalize alo q s (rds q s fm) s.length=B at *
 have hw:W3Ok ⟨u,p,r,v,q,s,A,B⟩:=⟨hu,hv,w1.np,w2.np,aa,bb,
  ⟨by have:=zvg B A;have:=aa.n;show(btw B A).length<=1000;omega,qal (fun y hy=>(bb.b y hy).1) aa.b⟩,
  fun i hi hkd=>⟨wC (rp _).1 (l1 i hi hkd),(rp _).1,l1 i hi hkd⟩,
  fun i hi hkd=>⟨wC (rp _).2 (l2 i hi hkd),(rp _).2,l2 i hi hkd⟩⟩
 have hs0:=qgk (gl:=gl) (d:=d+97) hw
 have hs1:=qgj (gl:=gl) (d:=d+97) hw
 have hs:∀i,i<2->zaz K3 (evC gl (call gl tab (d+100)) L3 (S3 ⟨u,p,r,v,q,s,A,B⟩ i))=some (S3 ⟨u,p,r,v,q,s,A,B⟩ (i+1)):=fun i hi=>by
  rcases i with _|_|i
  . exact hs0
  . exact hs1
  . omega
 simp only[L3,m3]at hs
 simp(disch:=apply zq;omega) only[go_sem,simprocAttr,↓Nat.reduceEqDiff,xx,fd3,m3,c1,c2,c3,c4,c6,c7]
 rw[zak (S3 ⟨u,p,r,v,q,s,A,B⟩) 2 (by unfold LF;omega)]
 . simp(disch:=apply zq;omega) only[go_sem,simprocAttr,↓Nat.reduceEqDiff,xx,S3,c5]
 . simp(disch:=apply zq;omega) only[go_sem,simprocAttr,↓Nat.reduceEqDiff,xx,S3]
 . exact hs
 . simp(disch:=apply zq;omega) only[go_sem,simprocAttr,↓Nat.reduceEqDiff,xx,S3]
end Go.Proofs.S50
