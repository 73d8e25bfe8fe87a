/-
  Chapter 17: new shelves. No condition.
-/
import Derived.Test.YthipjfnealbheaaDoorW17e
import Derived.Test.YthipjfnealbheaaDoorW17G4x3
set_option linter.all false
open Nat renaming exists_eq_add_of_le'->wB
namespace Go.Proofs.S17
open Go Go.Ev Go.Proofs Go.Proofs.S17.Q
variable {gl :Gl} {n:Nat}
structure NOk (c:Int)(A:List A3)(w s a:Int)(L:List Int):Prop where
 c:0<=c/\c<=1099511627776
 va:VA A
 u:∀i,i<A.length->(aat A i).u=0
 vk:K.VS w s a L
abbrev sf0 :AV:=.agg [i64 0,.lst true .sc [],.lst true .sc [],.agg [i64 0,i64 0,i64 0,.lst true .sc []]]
abbrev newS (c:Int)(A:List A3)(w s a:Int)(L:List Int):Sf:=⟨c,A,[],w,s,a,L⟩
theorem qdl (h:8<=n){f f':Bool}{c:Int}{A:List A3}{w s a:Int}{L:List Int}(ha:A.length<2^60)(hL:L.length<2^20)(hw:w<=9223372036854775807)(hN:¬NOk c A w s a L) :
  call gl tab n 8 [i64 c,.lst f sA (ac A),.agg [i64 w,i64 s,i64 a,.lst f' .sc (K.ns L)]] []=some (.tup [sf0,i64 1],[],[]):=by
 obtain⟨d,rfl⟩:=wB h
 obtain⟨ba,hba,c1⟩:=@zhx gl (d+7) (by omega) f sA A (Or.inr rfl) ha
 obtain⟨bu,hbu,c2⟩:=@ztg gl (d+7) (by omega) f sA A (Or.inr rfl) ha
 obtain⟨bk,hbk,c3⟩:=@K.valid_at gl (d+7) (by omega) f' w s a L hL hw
 rw[zah (fd:=fd8) rfl]
 by_cases h1:0<=c
 case neg=>simp(disch:=apply zq;omega) only[go_sem,simprocAttr,↓Nat.reduceEqDiff,xx,fd8,m8]
 by_cases h2:c<=1099511627776
 case neg=>simp(disch:=apply zq;omega) only[go_sem,simprocAttr,↓Nat.reduceEqDiff,xx,fd8,m8]
 cases ba with
 | false=>simp(disch:=apply zq;omega) only[go_sem,simprocAttr,↓Nat.reduceEqDiff,xx,fd8,m8,c1]
 | true =>
 cases bu with
 | true=>simp(disch:=apply zq;omega) only[go_sem,simprocAttr,↓Nat.reduceEqDiff,xx,fd8,m8,c1,c2]
 | false =>
 cases bk with
 | false=>simp(disch:=apply zq;omega) only[go_sem,simprocAttr,↓Nat.reduceEqDiff,xx,fd8,m8,c1,c2,c3]
 | true =>
 exfalso
 refine hN ⟨⟨h1,h2⟩,hba.1 rfl,fun i hi=>Classical.byContradiction fun hc=> ?_,hbk.1 rfl⟩
 cases hbu.2 ⟨i,hi,hc⟩
theorem z6i (h:8<=n){f f':Bool}{c:Int}{A:List A3}{w s a:Int}{L:List Int}(hL:L.length<2^20)(hw:w<=9223372036854775807)(hN:NOk c A w s a L) :
  call gl tab n 8 [i64 c,.lst f sA (ac A),.agg [i64 w,i64 s,i64 a,.lst f' .sc (K.ns L)]] []=some (.tup [sfV (newS c A w s a L) ⟨false,true,false,sA,.sc⟩,i64 0],[],[]):=by
 obtain⟨d,rfl⟩:=wB h
 have hn:=hN.va.n
 obtain⟨ba,hba,c1⟩:=@zhx gl (d+7) (by omega) f sA A (Or.inr rfl) (by omega)
 obtain⟨bu,hbu,c2⟩:=@ztg gl (d+7) (by omega) f sA A (Or.inr rfl) (by omega)
 obtain⟨bk,hbk,c3⟩:=@K.valid_at gl (d+7) (by omega) f' w s a L hL hw
 rw[hba.2 hN.va]at c1
 rw[hbk.2 hN.vk]at c3
 have hu:bu=false:=by
  cases bu with
  | false=>rfl
  | true=>obtain⟨i,hi,hc⟩:=hbu.1 rfl;exact absurd (hN.u i hi) hc
 rw[hu]at c2
 have c4:=@K.cloneI_at gl (d+7) (by omega) f' L hL
 have c5:=@zut gl (d+7) (by omega) f A hn
 have h1:=hN.c.1
 have h2:=hN.c.2
 have e1:(K.ns L).take L.length=K.ns L:=by rw[<-K.ns_length];exact List.take_length
 have e2:=zpf A
 rw[zah (fd:=fd8) rfl]
 simp(disch:=apply zq;omega) only[go_sem,simprocAttr,↓Nat.reduceEqDiff,xx,fd8,m8,c1,c2,c3,c4,c5,K.ns_length,zac,e1,e2]
 rfl
def L9 :MC:=match m9 with| .seq _ (.seq _ (.seq _ (.seq _ (.seq (.seq _ (.block _ (.loop _ b))) _))))=>b|_=>.skip
abbrev gV (S:Sf)(q:Fl)(e:Int):AV:=.agg [sfV S q,i64 e]
abbrev shG :Sh:=.st [.st [.sc,.sc,.sc,.st [.sc,.sc,.sc,.sc]],.sc]
abbrev g0 :AV:=.agg [sf0,i64 0]
def S9 (c:Int)(f f':Bool)(A:List A3)(w s a:Int)(L:List Int)(i:Nat):St:=⟨[.set 9 (i64 i),.set 6 (.ptr 6 []),.set 5 (.ptr 5 []),.set 1 (.lst f sA (ac A)),.set 0 (i64 c)],[(6,.fix shG g0),(5,.fix (.st [.sc,.sc,.sc,.sc]) (.agg [i64 w,i64 s,i64 a,.lst f' .sc (K.ns L)]))]⟩
section
variable {d :Nat} {f f':Bool} {c:Int} {A:List A3} {w s a:Int} {L:List Int}
theorem qch (hn:A.length<=1000){i:Nat}(hi:i<A.length)(hp:(aat A i).u=0):zbn [.slot 0,.slot 1,.slot 5,.slot 6,.slot 9,.key 5,.key 6] (evC gl (call gl tab d) L9 (S9 c f f' A w s a L i))=some (S9 c f f' A w s a L (i+1)):=by
 have hx:=zdx hi
 rw[hp]at hx
 simp(disch:=apply zq;omega) only[go_sem,simprocAttr,↓Nat.reduceEqDiff,xx,L9,m9,S9,zac,hx]
theorem qg7 (hn:A.length<=1000){i:Nat}(hi:i<A.length)(hp:¬(aat A i).u=0):∃st,evC gl (call gl tab d) L9 (S9 c f f' A w s a L i)=some (.ret,st)/\st.fr.get 6= .ptr 6 []/\st.hp.get 6=some (.fix shG (.agg [sf0,i64 1])):=by
 have hx:=zdx hi
 have e:((aat A i).u != 0)=true:=by simpa using hp
 refine⟨_,by simp(disch:=apply zq;omega) only[go_sem,simprocAttr,↓Nat.reduceEqDiff,xx,L9,m9,S9,zac,hx,e];exact rfl,?_,?_⟩
 . rfl
 . rfl
end
theorem z8s (h:6<=n){f f':Bool}{c:Int}{A:List A3}{w s a:Int}{L:List Int}(ha:A.length<2^60)(hL:L.length<2^20)(hN:¬NOk c A w s a L) :
  call gl tab n 9 [i64 c,.lst f sA (ac A),.agg [i64 w,i64 s,i64 a,.lst f' .sc (K.ns L)]] []=some (.agg [sf0,i64 1],[],[]):=by
 obtain⟨d,rfl⟩:=wB h
 obtain⟨ba,hba,c1⟩:=@zgk gl (d+5) (by omega) f sA A (Or.inr rfl) ha
 obtain⟨bk,hbk,c3⟩:=@K.rvalid_at gl (d+5) (by omega) f' w s a L hL
 rw[zah (fd:=fd9) rfl]
 by_cases h1:0<=c
 case neg=>simp(disch:=apply zq;omega) only[go_sem,simprocAttr,↓Nat.reduceEqDiff,xx,fd9,m9,c1,c3]
 by_cases h2:c<=1099511627776
 case neg=>simp(disch:=apply zq;omega) only[go_sem,simprocAttr,↓Nat.reduceEqDiff,xx,fd9,m9,c1,c3]
 cases ba with
 | false=>simp(disch:=apply zq;omega) only[go_sem,simprocAttr,↓Nat.reduceEqDiff,xx,fd9,m9,c1,c3]
 | true =>
 cases bk with
 | false=>simp(disch:=apply zq;omega) only[go_sem,simprocAttr,↓Nat.reduceEqDiff,xx,fd9,m9,c1,c3]
 | true =>
 have va:=hba.1 rfl
 rcases first_fail (fun i=>(aat A i).u=0) A.length with hA|⟨k,hk,hb,he⟩
 . exact absurd ⟨⟨h1,h2⟩,va,hA,hbk.1 rfl⟩ hN
 obtain⟨st,hst,hg1,hg2⟩:=qg7 (gl:=gl) (d:=d+5) (f:=f) (f':=f') (c:=c) (w:=w) (s:=s) (a:=a) (L:=L) va.n hk he
 have hs2:=fun i (hi:i<k)=>qch (gl:=gl) (d:=d+5) (f:=f) (f':=f') (c:=c) (w:=w) (s:=s) (a:=a) (L:=L) va.n (show i<A.length by omega) (hb i hi)
 simp only[L9,m9]at hs2 hst
 simp(disch:=apply zq;omega) only[go_sem,simprocAttr,↓Nat.reduceEqDiff,xx,fd9,m9,c1,c3]
 rw[zam (S9 c f f' A w s a L) k (by unfold LF;have:=va.n;omega),hst]
 . simp(disch:=apply zq;omega) only[go_sem,simprocAttr,↓Nat.reduceEqDiff,xx,hg1,hg2]
 . simp(disch:=apply zq;omega) only[go_sem,simprocAttr,↓Nat.reduceEqDiff,xx,S9]
 . exact hs2
 . rw[hst];rfl
theorem rnew_ok (h:6<=n){f f':Bool}{c:Int}{A:List A3}{w s a:Int}{L:List Int}(hL:L.length<2^20)(hN:NOk c A w s a L) :
  call gl tab n 9 [i64 c,.lst f sA (ac A),.agg [i64 w,i64 s,i64 a,.lst f' .sc (K.ns L)]] []=some (gV (newS c A w s a L) ⟨false,true,f',sA,.sc⟩ 0,[],[]):=by
 obtain⟨d,rfl⟩:=wB h
 have hn:=hN.va.n
 obtain⟨ba,hba,c1⟩:=@zgk gl (d+5) (by omega) f sA A (Or.inr rfl) (by omega)
 obtain⟨bk,hbk,c3⟩:=@K.rvalid_at gl (d+5) (by omega) f' w s a L hL
 rw[hba.2 hN.va]at c1
 rw[hbk.2 hN.vk]at c3
 have h1:=hN.c.1
 have h2:=hN.c.2
 have hs2:=fun i (hi:i<A.length)=>qch (gl:=gl) (d:=d+5) (f:=f) (f':=f') (c:=c) (w:=w) (s:=s) (a:=a) (L:=L) hn hi (hN.u i hi)
 simp only[L9,m9]at hs2
 have e2:=zpf A
 have e3:A.length<=LIM:=by unfold LIM;omega
 rw[zah (fd:=fd9) rfl]
 simp(disch:=apply zq;omega) only[go_sem,simprocAttr,↓Nat.reduceEqDiff,xx,fd9,m9,c1,c3]
 rw[zam (S9 c f f' A w s a L) A.length (by unfold LF;omega)]
 . simp(disch:=apply zq;omega) only[go_sem,simprocAttr,↓Nat.reduceEqDiff,xx,S9,zac,e2,e3]
   rfl
 . simp(disch:=apply zq;omega) only[go_sem,simprocAttr,↓Nat.reduceEqDiff,xx,S9]
 . exact hs2
 . simp(disch:=apply zq;omega) only[go_sem,simprocAttr,↓Nat.reduceEqDiff,xx,S9,zac]
end Go.Proofs.S17
namespace Go.Proofs.S17.Q
open Go Go.Ev Go.Proofs
variable {gl :Gl} {n:Nat}
def uerr (l:List A3)(k:Nat)(v:Int)(b:Bool):Int:=if b then(if 1099511627776<v\/v < -1099511627776\/(aat l k).u+v<0\/1099511627776<(aat l k).u+v then 1 else 0)else 5
def updA (l:List A3)(k:Nat)(v:Int):List A3:=l.set k ⟨(aat l k).t,(aat l k).w,(aat l k).u+v⟩
theorem z7r (l:List A3)(k:Nat)(v:Int):(ac l).set k (.agg [i64 (aat l k).t,i64 (aat l k).w,i64 ((aat l k).u+v)])=ac (updA l k v):=by simp[updA,ac,List.map_set]
theorem za6 (l:List A3)(k:Nat)(v:Int):(updA l k v).length=l.length:=by simp[updA]
theorem qb5 (h:6<=n){l:List A3}(hv:VA l){q v:Int}{k:Nat}(hkl:k<l.length)(he:uerr l k v true=0)
  (c40:call gl tab (n-1) 58 [.lst false sA (ac l),i64 q] []=some (.tup [i64 k,.bool true],[],[])) :
  call gl tab n 41 [.lst false sA (ac l),i64 q,i64 v] []=some (.tup [.lst false sA (ac (updA l k v)),i64 0],[],[]):=by
 obtain⟨d,rfl⟩:=wB h
 rw[show d+6-1=d+5 from rfl]at c40;have c:=c40;clear c40
 have hn:=hv.n
 have hx:=zdx hkl
 have hu:=(hv.ok k hkl).u
 have he2:¬(1099511627776<v\/v < -1099511627776\/(aat l k).u+v<0\/1099511627776<(aat l k).u+v):=fun h=>by rw[uerr,if_pos rfl,if_pos h]at he;omega
 have c42:=@zut gl (d+5) (by omega) false l (by omega)
 have e1:=z7r l k v
 have e2:=zpf (updA l k v)
 rw[za6]at e2
 rw[zah (fd:=fd41) rfl]
 simp(disch:=apply zq;omega) only[go_sem,simprocAttr,↓Nat.reduceEqDiff,xx,fd41,m41,c,zac,hx,c42,e1,e2,za6]
theorem zf9 {l:List A3}{k:Nat}(hk:k<l.length)(v:Int)(i:Nat):aat (updA l k v) i=if i=k then⟨(aat l k).t,(aat l k).w,(aat l k).u+v⟩else aat l i:=by
 unfold updA
 by_cases h:i=k
 . subst h;rw[if_pos rfl];simp[aat,List.getD_eq_getElem?_getD,hk]
 . rw[if_neg h];unfold aat
   simp only[List.getD_eq_getElem?_getD];rw[List.getElem?_set_ne (by omega)]
theorem zl9 {l:List A3}(hv:VA l){v:Int}{k:Nat}(hkl:k<l.length)(he:uerr l k v true=0):VA (updA l k v):=by
 have he2:¬(1099511627776<v\/v < -1099511627776\/(aat l k).u+v<0\/1099511627776<(aat l k).u+v):=fun h=>by rw[uerr,if_pos rfl,if_pos h]at he;omega
 have et:∀i,(aat (updA l k v) i).t=(aat l i).t:=fun i=>by rw[zf9 hkl];split<;>simp_all
 have ew:∀i,(aat (updA l k v) i).w=(aat l i).w:=fun i=>by rw[zf9 hkl];split<;>simp_all
 refine⟨by rw[za6];exact hv.n,fun i hi=> ?_⟩
 rw[za6]at hi
 have o:=hv.ok i hi
 have op:zk5 (updA l k v) i=zk5 l i:=by cases i<;>simp[zk5,et]
 refine⟨by rw[et,op];exact o.t,by rw[ew];exact o.w,?_⟩
 rw[zf9 hkl]
 by_cases h:i=k
 . rw[if_pos h];simp only;omega
 . rw[if_neg h];exact o.u
end Go.Proofs.S17.Q
