/-
  Plants: allotments. No condition.
-/
import Derived.Test.YtaloneiaejhopaaDoorW50G16x3
set_option linter.all false
open List renaming length_set->wB,take_of_length_le->wC,length_singleton->wD,length_append->wE,cons_append->wF
namespace Go.Proofs.S50
open Go Go.Ev Go.Proofs Go.Fl
variable {gl :Gl} {n:Nat}
def esA :Nat->List Al->List (AV×AV×Nat)
 | _,[]=>[]
 | k,a::l=>(.agg [i64 a.g,i64 a.o],i64 (k:Int),k)::esA (k+1) l
theorem zw6 (g o:Int):∀(k:Nat) (l:List Al),zcg (.agg [i64 g,i64 o]) (esA k l)=some ((fnd l g o).map fun j=>(j,i64 ((k+j:Nat):Int)))
 | k,[]=>rfl
 | k,a::l=>by
   rw[esA,zcg,zw6 g o (k+1) l,zjj]
   have hs:sm g o a=((g==a.g)&&((o==a.o)&&true)):=by
    unfold sm
    have h1:∀a b:Int,decide (a=b)=(b==a):=fun a b=>by
     by_cases e:a=b
     . subst e;simp
     . rw[decide_eq_false e,beq_eq_false_iff_ne.2 (Ne.symm e)]
    rw[h1,h1,Bool.and_true]
   have hk:zh1 (.agg [i64 g,i64 o]) (.agg [i64 a.g,i64 a.o])=some (sm g o a):=by
    rw[hs];rfl
   rw[hk,Option.bind_some]
   cases sm g o a with
   | true=>rfl
   | false =>
     simp only[Bool.false_eq_true,if_false,Option.map_some,Option.map_map,Option.some.injEq]
     congr 1
     funext j
     simp only[Function.comp]
     rw[show k+1+j=k+(j+1) by omega]
theorem z4e (a:Al):∀(k:Nat) (l:List Al),esA k (l++[a])=esA k l++[(.agg [i64 a.g,i64 a.o],i64 ((k+l.length:Nat):Int),k+l.length)]
 | k,[]=>rfl
 | k,x::l=>by
   rw[wF,esA,z4e a (k+1) l,esA,wF,List.length_cons,show k+1+l.length=k+(l.length+1) by omega]
theorem z4d {a:Al}:∀{k:Nat} {l:List Al} {j:Nat},j<l.length->(alt l j).g=a.g->(alt l j).o=a.o->esA k (l.set j a)=esA k l
 | k,[],j,h,_,_=>by simp at h
 | k,x::l,0,h,h1,h2=>by
   have h1:x.g=a.g:=h1
   have h2:x.o=a.o:=h2
   rw[List.set_cons_zero,esA,esA,h1,h2]
 | k,x::l,j+1,h,h1,h2=>by
   have:=z4d (k:=k+1) (l:=l) (j:=j) (by simpa using h) h1 h2
   rw[List.set_cons_succ,esA,esA,this]
theorem qe7 (l:List Al)(j:Nat)(a:Al):als (l.set j a)=(als l).set j (.agg [i64 a.g,i64 a.o,i64 a.n]):=by simp[als]
theorem z1d {l:List Al}{g o v:Int}{j:Nat}(h:fnd l g o=some j):putA l g o v=l.set j ⟨g,o,(alt l j).n+v⟩:=by unfold putA;rw[h]
theorem z1e {l:List Al}{g o v:Int}(h:fnd l g o=none):putA l g o v=l++[⟨g,o,v⟩]:=by unfold putA;rw[h]
theorem zq8 (p:List Sp)(r:List Rd)(x:List Int):∀i,(alo p r x i).length<=i
 | 0=>Nat.le_refl _
 | i+1=>by
   have:=zq8 p r x i
   rw[alo];split
   . unfold putA;split
     . rw[wB];omega
     . rw[wE,wD];omega
   . omega
theorem qkr {l:List Al}{g o v B:Int}(h:∀a∈l,0<=a.n/\a.n<=B)(hB:0<=B)(hv:0<=v/\v<=1073741824):∀a∈putA l g o v,0<=a.n/\a.n<=B+1073741824:=by
 intro a ha
 unfold putA at ha
 split at ha
 . rename_i j hj
   obtain⟨m,hm,rfl⟩:=List.getElem_of_mem ha
   rw[List.getElem_set]
   rw[wB]at hm
   split
   . have:=h _ (zgr (zji hj).1)
     simp only;omega
   . have:=h _ (List.getElem_mem hm)
     omega
 . rw[List.mem_append,List.mem_singleton]at ha
   rcases ha with ha|rfl
   . have:=h _ ha;omega
   . simp only;omega
theorem qe8 {p:List Sp}{r:List Rd}{x:List Int}(hx:∀i,0<=nth x i/\nth x i<=1073741824):∀i,∀a∈alo p r x i,0<=a.n/\a.n<=(i:Int)*1073741824
 | 0=>fun a ha=>by simp[alo]at ha
 | i+1=>by
   have ih:=qe8 (p:=p) (r:=r) hx i
   rw[alo];split
   . intro a ha
     have:=qkr ih (by omega) (hx i) a ha
     omega
   . intro a ha
     have:=ih a ha;omega
def L7 :MC:=match m7 with| .seq _ (.seq _ (.seq _ (.seq _ (.seq (.seq _ (.block _ (.loop _ b))) _))))=>b|_=>.skip
abbrev K7 :List Kp:=[.slot 2,.own 5 5005 yA3,.slot 6,.slot 7,.slot 26,.slot 27,.slot 28,.key 2,.key 14]
def S7L (q:PF)(p:List Sp)(r:List Rd)(fb:Bool)(x:List Int)(i:Nat)(l:List Al):St:=⟨[.set 28 (i64 (i:Int)),.set 27 (i64 (r.length:Int)),.set 26 (.lst q.c q.t (ds r)),.set 7 (.lst fb .sc (ns x)),.set 6 (.mp 14),.set 5 (.sl 5005 [] 0 l.length),.set 2 (.ptr 2 [])],[(14,.mp (esA 0 l) l.length),(2,.fix sPl (plV q p r)),(5005,.grow yA3 (als l))]⟩
def S7 (q:PF)(p:List Sp)(r:List Rd)(fb:Bool)(x:List Int)(i:Nat):St:=S7L q p r fb x i (alo p r x i)
section
variable {d :Nat} {q:PF} {p:List Sp} {r:List Rd} (hq:PFOk q p r) (hk:PK p r) {fb:Bool} {x:List Int} (hx:∀i,0<=nth x i/\nth x i<=1073741824) (hxl:x.length=r.length)
include hq hk hx hxl
set_option maxHeartbeats 1000000 in
theorem qkh {i:Nat}(hi:i<r.length):zaz K7 (evC gl (call gl tab d) L7 (S7 q p r fb x i))=some (S7 q p r fb x (i+1)):=by
 have hp:=hk.ok.pn
 have hr:=hk.ok.rn
 have hs:=z4i hq hp hr hi
 have x1:=z4j hi
 obtain⟨f0,f1,t0,t1,ne⟩:=hk.ok.rf i hi
 have hxi:=hx i
 have x4:=zb2 (show i<x.length by omega)
 have hab:=qe8 (p:=p) (r:=r) hx i
 have hal:=zq8 p r x i
 have hal':(alo p r x (i+1)).length<=i+1:=zq8 p r x (i+1)
 have e:alo p r x (i+1)=if(spt p (rdt r i).f.toNat).kd=2/\(spt p (rdt r i).t.toNat).kd=3 then putA (alo p r x i) (spt p (rdt r i).f.toNat).nu (spt p (rdt r i).t.toNat).nu (nth x i)else alo p r x i:=rfl
 unfold S7
 rw[e]
 clear e hal'
 generalize alo p r x i=A at *
 generalize nth x i=xi at *
 generalize rdt r i=y at *
 obtain⟨xf,xt,xc,xk⟩:=y
 simp only at *
 obtain⟨j,rfl⟩:=Int.eq_ofNat_of_zero_le f0
 obtain⟨k,rfl⟩:=Int.eq_ofNat_of_zero_le t0
 have hs2:=zl8 hq hp hr (show j<p.length by omega)
 have x2:=zen (show j<p.length by omega)
 have x3:=zen (show k<p.length by omega)
 simp only[Int.toNat_natCast]
 obtain⟨qb,qs,qc,qt⟩:=q
 simp only at hs hs2
 subst hs hs2
 have al:=zaw A
 have l1:A.length+1<=LIM:=by unfold LIM;omega
 have tk:∀(u:List AV) (v:AV),(u++[v]).take (u.length+1)=u++[v]:=fun u v=>wC (by simp)
 by_cases k1:(spt p j).kd=2
 case neg =>
  have b1:((spt p j).kd != 2)=true:=by simpa using k1
  rw[if_neg fun h=>k1 h.1]
  unfold S7L
  simp(disch:=apply zq;omega) only[go_sem,simprocAttr,↓Nat.reduceEqDiff,xx,L7,m7,zac,zaq,x1,x2,x3,x4,b1]
 by_cases k2:(spt p k).kd=3
 case neg =>
  have b1:((spt p j).kd != 2)=false:=by simp[k1]
  have b2:((spt p k).kd != 3)=true:=by simpa using k2
  rw[if_neg fun h=>k2 h.2]
  unfold S7L
  simp(disch:=apply zq;omega) only[go_sem,simprocAttr,↓Nat.reduceEqDiff,xx,L7,m7,zac,zaq,x1,x2,x3,x4,b1,b2]
 have b1:((spt p j).kd != 2)=false:=by simp[k1]
 have b2:((spt p k).kd != 3)=false:=by simp[k2]
 rw[if_pos ⟨k1,k2⟩]
 generalize (spt p j).nu=g0 at *
 generalize (spt p k).nu=o0 at *
 have hf:=zw6 g0 o0 0 A
 cases hfn:fnd A g0 o0 with
 | some m =>
   obtain⟨hm,hsm⟩:=zji hfn
   obtain⟨g1,o1⟩:=znp.1 hsm
   have hmb:=hab _ (zgr hm)
   rw[z1d hfn]
   rw[hfn]at hf
   simp only[Option.map_some,Nat.zero_add]at hf
   have e1:=@z4d ⟨g0,o0,(alt A m).n+xi⟩ 0 A m hm g1 o1
   have e2:=qe7 A m ⟨g0,o0,(alt A m).n+xi⟩
   have x5:=zjq hm
   rw[g1,o1]at x5
   unfold S7L
   rw[e1,e2,wB]
   simp(disch:=apply zq;omega) only[go_sem,simprocAttr,↓Nat.reduceEqDiff,xx,L7,m7,zac,zaq,x1,x2,x3,x4,b1,b2,hf,zaw,x5,zab,hxl,g1,o1,wB]
 | none =>
   rw[z1e hfn]
   rw[hfn]at hf
   simp only[Option.map_none]at hf
   have e1:=z4e ⟨g0,o0,xi⟩ 0 A
   have e2:=z5m A ⟨g0,o0,xi⟩
   simp only[Nat.zero_add]at e1
   unfold S7L
   have at1:∀v,(als A++[v])[A.length]? =some v:=fun v=>by rw[<-al];simp
   have st1:∀v w,(als A++[v]).set A.length w=als A++[w]:=fun v w=>by rw[<-al];simp
   rw[e1,e2,wE,wD]
   simp(disch:=apply zq;omega) only[go_sem,simprocAttr,↓Nat.reduceEqDiff,xx,L7,m7,zac,zaq,x1,x2,x3,x4,b1,b2,hf,zaw,l1,tk,at1,st1,zab,hxl,Int.zero_add]
end
structure Fq where
 s:Int
 c:Int
 b1:Bool
 b2:Bool
 b3:Bool
 pr:List Int
 cut:List Nat
abbrev fqV (w:Fq)(fl:List Int):AV:=.agg [i64 w.s,i64 w.c,.lst w.b1 .sc (ns fl),.lst w.b2 .sc (ns w.pr),.lst w.b3 .sc (us w.cut)]
theorem ztq (h:1<=n){q:PF}{p:List Sp}{r:List Rd}(hq:PFOk q p r)(hk:PK p r){w:Fq}{fl:List Int}(hl:fl.length=(netA p r).length)(hx:∀i,0<=nth (rds p r fl) i/\nth (rds p r fl) i<=1073741824) :
  call gl tab n 7 [plV q p r,fqV w fl] []=some (.sl 20000 [] 0 (alo p r (rds p r fl) r.length).length,[],[.grow yA3 (als (alo p r (rds p r fl) r.length))]):=by
 obtain⟨d,rfl⟩:=Nat.exists_eq_add_of_le' h
 have hxl:=z09 hl
 have hrn:=hk.ok.rn
 have hpn:=hk.ok.pn
 have h1:=zcw p 1 p.length
 have h3:=zcw p 3 p.length
 have hln:=zd3 p r
 have hs:=fun i (hi:i<r.length)=>@qkh gl d q p r hq hk w.b1 (rds p r fl) hx hxl i hi
 simp only[L7,m7]at hs
 have al:=zaw (alo p r (rds p r fl) r.length)
 have e1:(fl.length:Int)-(r.length:Int)=((fl.length-r.length:Nat):Int):=by omega
 have e2:List.drop (fl.length-r.length) (List.take fl.length (ns fl))=ns (rds p r fl):=by
  unfold rds
  rw[wC (by rw[zab];exact Nat.le_refl _)]
  rw[show fl.length-r.length=p.length+(ofK p 1 p.length).length+(ofK p 3 p.length).length by omega]
  simp[ns]
 rw[zai (fd:=fd7) rfl]
 simp(disch:=apply zq;omega) only[go_sem,simprocAttr,↓Nat.reduceEqDiff,xx,fd7,m7,zab,zaq,e1,e2]
 rw[zak (S7 q p r w.b1 (rds p r fl)) r.length (by unfold LF;omega)]
 . simp(disch:=apply zq;omega) only[go_sem,simprocAttr,↓Nat.reduceEqDiff,xx,S7,S7L,al]
 . simp(disch:=apply zq;omega) only[go_sem,simprocAttr,↓Nat.reduceEqDiff,xx,S7,S7L,alo,als,esA,List.map_nil,List.length_nil]
 . exact hs
 . simp(disch:=apply zq;omega) only[go_sem,simprocAttr,↓Nat.reduceEqDiff,xx,S7,S7L]
end Go.Proofs.S50
