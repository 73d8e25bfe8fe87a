/-
  Flows: the heap. No condition.
-/
import Derived.Test.YtaloneiaejhopaaGreatDoorW51G3x3
import Derived.Test.YtaloneiaejhopaaGreatDoorEvY
set_option linter.all false
open Nat renaming reduceEqDiff->wB,exists_eq_add_of_le'->wC,eq_zero_or_pos->wD
open List renaming getD_eq_getElem?_getD->wE,getElem?_eq_some_iff->wF,take_append_of_le_length->wG,length_replicate->wH,getElem?_set->wJ,map_cons->wK
open Int renaming add_sub_cancel->wM,mul_le_mul_of_nonneg_right->wN
namespace Go.Proofs.S51
open Go Go.Ev Go.Proofs Go.Fl
variable {gl :Gl} {n:Nat}
abbrev sHp :Sh:=.st [.sc,.sc]
def swp (l:List Int)(i k:Nat):List Int:=(l.set i (nth l k)).set k (nth l i)
theorem fS (l:List Int)(i k:Nat):(swp l i k).length=l.length:=by simp[swp]
theorem RP (l:List Int)(i k:Nat):ns (swp l i k)=((ns l).set i (i64 (nth l k))).set k (i64 (nth l i)):=by rw[swp,fB,fB]
theorem xC (h:1<=n){K V:List Int}{m i k:Nat}(hi:i<m)(hk:k<m)(h1:m<=K.length)(h2:m<=V.length) :
  call gl tab n 112 [.ptr 100000 [],i64 (i:Int),i64 (k:Int)] [(100000,.fix sHp (.aggR [.sl 100001 [] 0 m,.sl 100002 [] 0 m])),(100001,.grow .sc (ns K)),(100002,.grow .sc (ns V))] =
   some (.tup [],[(100000,.fix sHp (.aggR [.sl 100001 [] 0 m,.sl 100002 [] 0 m])),(100001,.grow .sc (ns (swp K i k))),(100002,.grow .sc (ns (swp V i k)))],[]):=by
 obtain⟨d,rfl⟩:=wC h;have k1:=bc (show i<K.length by omega);have k2:=bc (show k<K.length by omega);have v1:=bc (show i<V.length by omega);have v2:=bc (show k<V.length by omega);have k3:((ns K).set i (i64 (nth K k)))[k]? =some (i64 (nth K k)):=by
  rw[wJ];split
  . rename_i e;subst e;rw[if_pos (by rw[ae];omega)]
  . exact k2
 have v3:((ns V).set i (i64 (nth V k)))[k]? =some (i64 (nth V k)):=by
  rw[wJ];split
  . rename_i e;subst e;rw[if_pos (by rw[ae];omega)]
  . exact v2
 rw[bf (fd:=KI) rfl];simp(disch:=apply zq;omega) only[go_sem,simprocAttr,↓wB,xx,KI,Vf,ae,k1,k2,k3,v1,v2,v3,List.length_set,RP]
theorem qR {l:List Int}{i k:Nat}(hi:i<l.length)(hk:k<l.length)(j:Nat):nth (swp l i k) j=if j=k then nth l i else if j=i then nth l k else nth l j:=by rw[swp,bZ (by simp;exact hk),bZ hi]
def prs (K V:List Int):Nat->List (Int×Int)
 | 0=>[]
 | m+1=>(nth K m,nth V m)::prs K V m
theorem lT {K V K' V':List Int}:∀{m:Nat},(∀j,j<m->nth K' j=nth K j/\nth V' j=nth V j)->prs K' V' m=prs K V m
 | 0,_=>rfl
 | m+1,h=>by rw[prs,prs,(h m (by omega)).1,(h m (by omega)).2,lT fun j hj=>h j (by omega)]
theorem sr {K V:List Int}{i:Nat}(hk:i<K.length)(hv:i<V.length)(a b:Int):∀{m:Nat},i<m->((nth K i,nth V i)::prs (K.set i a) (V.set i b) m).Perm ((a,b)::prs K V m)
 | 0,h=>by omega
 | m+1,h=>by
   rw[prs,prs];by_cases e:i=m
   . subst e;rw[bZ hk,bZ hv,if_pos rfl,if_pos rfl,lT (K:=K) (V:=V) fun j hj=>by rw[bZ hk,bZ hv,if_neg (by omega),if_neg (by omega)];exact⟨rfl,rfl⟩];exact .swap _ _ _
   . rw[bZ hk,bZ hv,if_neg (show ¬m=i from fun h=>e h.symm),if_neg (show ¬m=i from fun h=>e h.symm)];have ih:=sr hk hv a b (m:=m) (by omega);exact(List.Perm.swap _ _ _).trans ((ih.cons _).trans (.swap _ _ _))
theorem xZ {K V:List Int}{m i k:Nat}(hi:i<m)(hk:k<m)(h1:m<=K.length)(h2:m<=V.length):(prs (swp K i k) (swp V i k) m).Perm (prs K V m):=by
 by_cases e:i=k
 . subst e;rw[lT fun j hj=> ?_];rw[qR (by omega) (by omega),qR (by omega) (by omega)];split
   . rename_i e;rw[e];exact⟨rfl,rfl⟩
   . exact⟨rfl,rfl⟩
 . have p1:=sr (K:=K) (V:=V) (i:=i) (by omega) (by omega) (nth K k) (nth V k) hi;have p2:=sr (K:=K.set i (nth K k)) (V:=V.set i (nth V k)) (i:=k) (by simp;omega) (by simp;omega) (nth K i) (nth V i) hk;rw[bZ (by omega),bZ (by omega),if_neg (show ¬k=i from fun h=>e h.symm),if_neg (show ¬k=i from fun h=>e h.symm)]at p2;have p3:=(p2.trans p1);exact p3.cons_inv
theorem US {i:Nat}(h:0<i)(hi:i<=30000000000):aM .quo .i64 ((i:Int)-1) 2=some (i64 (((i-1)/2:Nat):Int)):=by
 have q:Int.tdiv ((i:Int)-1) 2=((i-1)/2:Nat):=by rw[Int.tdiv_eq_ediv_of_nonneg (by omega)];omega
 unfold aM;simp[q];rw[w64 (by omega)]
noncomputable def L68:MC:=wq 0 m83
structure PS where
 K:List Int
 V:List Int
 i:Nat
def h68 (B:Bool)(m:Nat)(K V:List Int):Hp :=
 if B then [(100002,.dead),(100001,.dead),(100000,.fix sHp (.aggR [.sl 8000 [] 0 m,.sl 8001 [] 0 m])),(8001,.grow .sc (ns V)),(8000,.grow .sc (ns K))]
 else [(100002,.grow .sc (ns V)),(100001,.grow .sc (ns K)),(100000,.fix sHp (.aggR [.sl 100001 [] 0 m,.sl 100002 [] 0 m]))]
def S68 (B:Bool)(m:Nat)(a:PS):St:=⟨[.set 6 (i64 (a.i:Int)),.set 0 (.ptr 100000 [])],h68 B m a.K a.V⟩
def n68 (a:PS):PS:=⟨swp a.K a.i ((a.i-1)/2),swp a.V a.i ((a.i-1)/2),(a.i-1)/2⟩
def g68 (a:PS):Bool:=decide (0<a.i/\nth a.K a.i<nth a.K ((a.i-1)/2))
theorem QM {d:Nat}{B:Bool}{m:Nat}{a:PS}(h1:m<=a.K.length)(h2:m<=a.V.length)(hi:a.i<m)(hm:m<=30000000000)(hg:g68 a=true) :
  aK K68 (evC gl (call gl tab (d+1)) L68 (S68 B m a))=some (S68 B m (n68 a)):=by
 obtain⟨K,V,i⟩:=a;simp only[g68,decide_eq_true_eq]at hg h1 h2 hi;obtain⟨g1,g2⟩:=hg;have q1:=US (show 0<i by omega) (show i<=30000000000 by omega);have x1:=bc (show i<K.length by omega);have x2:=bc (show(i-1)/2<K.length by omega);have hj:(i-1)/2<m:=by omega
 have c:=@xC gl (d+1) (by omega) K V m i ((i-1)/2) hi hj (by omega) (by omega);simp only[n68];generalize (i-1)/2=j at *
 cases B
 . simp(disch:=apply zq;omega) only[go_sem,simprocAttr,↓wB,xx,L68,S68,h68,ae,x1,x2,q1,c]
 . simp(disch:=apply zq;omega) only[go_sem,simprocAttr,↓wB,xx,L68,S68,h68,ae,x1,x2,q1,c]
theorem PU {d:Nat}{B:Bool}{m:Nat}{a:PS}(h1:m<=a.K.length)(hi:a.i<m)(hm:m<=30000000000)(hg:g68 a=false) :
  ∃fr,evC gl (call gl tab (d+1)) L68 (S68 B m a)=some (.exit 0,⟨fr,h68 B m a.K a.V⟩):=by
 obtain⟨K,V,i⟩:=a;simp only[g68,decide_eq_false_iff_not]at hg h1 hi;have x1:=bc (show i<K.length by omega);rcases wD i with h0|h0
 . subst h0;cases B
   . exact⟨_,by simp(disch:=apply zq;omega) only[go_sem,simprocAttr,↓wB,xx,L68,S68,h68,ae,x1];rfl⟩
   . exact⟨_,by simp(disch:=apply zq;omega) only[go_sem,simprocAttr,↓wB,xx,L68,S68,h68,ae,x1];rfl⟩
 . have hg:¬nth K i<nth K ((i-1)/2):=fun h=>hg ⟨h0,h⟩
   have q1:=US h0 (show i<=30000000000 by omega);have x2:=bc (show(i-1)/2<K.length by omega);have hj:(i-1)/2<m:=by omega
   generalize (i-1)/2=j at *
   cases B
   . exact⟨_,by simp(disch:=apply zq;omega) only[go_sem,simprocAttr,↓wB,xx,L68,S68,h68,ae,x1,x2,q1];rfl⟩
   . exact⟨_,by simp(disch:=apply zq;omega) only[go_sem,simprocAttr,↓wB,xx,L68,S68,h68,ae,x1,x2,q1];rfl⟩
theorem UV (h:2<=n)(key:Int)(v:Nat):call gl tab n 83 [.ptr 100000 [],i64 key,i64 (v:Int)] [(100000,.fix sHp (.agg [.lst true .sc [],.lst true .sc []]))] =
  some (.tup [],[(100000,.fix sHp (.aggR [.sl 20000 [] 0 1,.sl 20001 [] 0 1]))],[.grow .sc (ns [key]),.grow .sc (ns [(v:Int)])]):=by
 obtain⟨d,rfl⟩:=wC h;have l1:1<=LIM:=by unfold LIM;omega
 rw[bf (fd:=C1) rfl];simp(disch:=apply zq;omega) only[go_sem,simprocAttr,↓wB,xx,C1,m83,l1];rw[aE (fun _=>⟨[.set 6 (i64 0),.set 0 (.ptr 100000 [])],[(100000,.fix sHp (.aggR [.sl 8000 [] 0 1,.sl 8001 [] 0 1])),(8001,.grow .sc [i64 (v:Int)]),(8000,.grow .sc [i64 key])]⟩) 0 (by unfold LF;omega)]
 . simp(disch:=apply zq;omega) only[go_sem,simprocAttr,↓wB,xx,ns,wK,List.map_nil]
 . simp(disch:=apply zq;omega) only[go_sem,simprocAttr,↓wB,xx]
 . intro i hi;omega
 . simp(disch:=apply zq;omega) only[go_sem,simprocAttr,↓wB,xx]
theorem loop68 {d:Nat}{B:Bool}{m L:Nat}{K0 V0:List Int}(n1:K0.length=L)(n2:V0.length=L)(hL:m+1<=L)(hm:m<=20000000000) :
  ∃K V:List Int,K.length=L/\V.length=L/\(prs K V (m+1)).Perm (prs K0 V0 (m+1))/\∃fr,∀st,bT K68 st=some (S68 B (m+1) ⟨K0,V0,m⟩)->fG (evC gl (call gl tab (d+1)) L68) K68 LF st=some (.exit 0,⟨fr,h68 B (m+1) K V⟩):=by
 obtain⟨a,⟨i1,i2,i3,i4⟩,ag,hiter⟩:=l4 (f:=evC gl (call gl tab (d+1)) L68) (ks:=K68) (S68 B (m+1)) (fun a=>a.K.length=L/\a.V.length=L/\a.i<m+1/\(prs a.K a.V (m+1)).Perm (prs K0 V0 (m+1))) (fun a=>a.i) n68 g68 (a0:=⟨K0,V0,m⟩) (by show m<LF;unfold LF;omega) ⟨n1,n2,by show m<m+1;omega,.refl _⟩
  (fun a ⟨i1,i2,i3,i4⟩ hg=>by
    have hg':=hg;simp only[g68,decide_eq_true_eq]at hg';refine⟨QM (by omega) (by omega) i3 (by omega) hg,⟨by simp only[n68,fS];exact i1,by simp only[n68,fS];exact i2,by simp only[n68];omega,?_⟩,by simp only[n68];omega⟩;exact(xZ i3 (by omega) (by omega) (by omega)).trans i4)
  (fun a ⟨i1,i2,i3,i4⟩ hg=>by
    obtain⟨fr,e⟩:=@PU gl d B (m+1) a (by omega) i3 (by omega) hg;rw[e];rfl)
 obtain⟨fr,he⟩:=@PU gl d B (m+1) a (by omega) i3 (by omega) ag;exact⟨a.K,a.V,i1,i2,i4,fr,fun st h=>by rw[hiter st h,he]⟩
theorem D6 {K V:List Int}{m:Nat}{key:Int}{v:Nat}{K0 V0:List Int}(k1:nth K0 m=key)(v1:nth V0 m=v)(k2:∀j,j<m->nth K0 j=nth K j)(v2:∀j,j<m->nth V0 j=nth V j):prs K0 V0 (m+1)=(key,(v:Int))::prs K V m:=by rw[prs,k1,v1,lT fun j hj=>⟨k2 j hj,v2 j hj⟩]
theorem q6 {L:List Int}{x:Int}{m:Nat}(h:L.length=m):nth (L++[x]) m=x/\∀j,j<m->nth (L++[x]) j=nth L j:=by refine⟨by unfold nth;rw[wE,List.getElem?_append_right (by omega),h];simp,fun j hj=> ?_⟩;unfold nth;rw[wE,List.getElem?_append_left (by omega),wE]
theorem IB (h:2<=n){K V:List Int}{m:Nat}(key:Int)(v:Nat)(h1:K.length=m)(h2:V.length=m)(hm:m<=20000000000):∃K' V':List Int,K'.length=m+1/\V'.length=m+1/\(prs K' V' (m+1)).Perm ((key,(v:Int))::prs K V m) /\
  call gl tab n 83 [.ptr 100000 [],i64 key,i64 (v:Int)] [(100000,.fix sHp (.aggR [.sl 100001 [] 0 m,.sl 100002 [] 0 m])),(100001,.grow .sc (ns K)),(100002,.grow .sc (ns V))] =
  some (.tup [],[(100000,.fix sHp (.aggR [.sl 20000 [] 0 (m+1),.sl 20001 [] 0 (m+1)])),(100001,.dead),(100002,.dead)],[.grow .sc (ns K'),.grow .sc (ns V')]):=by
 obtain⟨d,rfl⟩:=wC h;have l1:m+1<=LIM:=by unfold LIM;omega
 have t1:=(yc K key).symm;have t2:=(yc V (v:Int)).symm;have n1:(K++[key]).length=m+1:=by simp;omega
 have n2:(V++[(v:Int)]).length=m+1:=by simp;omega
 have p0:=D6 (q6 (x:=key) h1).1 (q6 (x:=(v:Int)) h2).1 (q6 (x:=key) h1).2 (q6 (x:=(v:Int)) h2).2;generalize K++[key]=K0 at *
 generalize V++[(v:Int)]=V0 at *
 obtain⟨K',V',i1,i2,i3,fr,hiter⟩:=@loop68 gl d true m (m+1) K0 V0 n1 n2 (Nat.le_refl _) hm;refine⟨K',V',i1,i2,by rw[<-p0];exact i3,?_⟩;simp only[L68,wq]at hiter;rw[bf (fd:=C1) rfl];simp(disch:=apply zq;omega) only[go_sem,simprocAttr,↓wB,xx,C1,m83,l1,ae,h1,h2,t1,t2,wM];rw[hiter]
 . simp(disch:=apply zq;omega) only[go_sem,simprocAttr,↓wB,xx,h68]
 . simp(disch:=apply zq;omega) only[go_sem,simprocAttr,↓wB,xx,S68,h68,wM]
theorem M7 (h:2<=n){K V:List Int}{m L:Nat}(key:Int)(v:Nat)(h1:K.length=L)(h2:V.length=L)(hL:m+1<=L)(hm:m<=20000000000):∃K' V':List Int,K'.length=L/\V'.length=L/\(prs K' V' (m+1)).Perm ((key,(v:Int))::prs K V m) /\
  call gl tab n 83 [.ptr 100000 [],i64 key,i64 (v:Int)] [(100000,.fix sHp (.aggR [.sl 100001 [] 0 m,.sl 100002 [] 0 m])),(100001,.grow .sc (ns K)),(100002,.grow .sc (ns V))] =
  some (.tup [],[(100000,.fix sHp (.aggR [.sl 100001 [] 0 (m+1),.sl 100002 [] 0 (m+1)])),(100001,.grow .sc (ns K')),(100002,.grow .sc (ns V'))],[]):=by
 obtain⟨d,rfl⟩:=wC h;have l1:m+1<=LIM:=by unfold LIM;omega
 have e1:¬m=L:=by omega
 have tk:∀(L:List Int) (x:Int),m+1<=L.length->(ns L).take m++[i64 x]++(ns L).drop (m+1)=ns (L.set m x):=fun L x hL=>by rw[fB,List.set_eq_take_append_cons_drop,if_pos (by rw[ae];omega)];simp
 have t1:=tk K key (by omega);have t2:=tk V v (by omega);have n1:(K.set m key).length=L:=by simp;omega
 have n2:(V.set m (v:Int)).length=L:=by simp;omega
 have p0:prs (K.set m key) (V.set m (v:Int)) (m+1)=(key,(v:Int))::prs K V m:=D6 (by rw[bZ (by omega),if_pos rfl]) (by rw[bZ (by omega),if_pos rfl]) (fun j hj=>by rw[bZ (by omega),if_neg (by omega)]) (fun j hj=>by rw[bZ (by omega),if_neg (by omega)]);generalize K.set m key=K0 at *
 generalize V.set m (v:Int)=V0 at *
 obtain⟨K',V',i1,i2,i3,fr,hiter⟩:=@loop68 gl d false m L K0 V0 n1 n2 hL hm;refine⟨K',V',i1,i2,by rw[<-p0];exact i3,?_⟩;simp only[L68,wq]at hiter;rw[bf (fd:=C1) rfl];simp(disch:=apply zq;omega) only[go_sem,simprocAttr,↓wB,xx,C1,m83,l1,ae,h1,h2,t1,t2,e1,hL,false_and,decide_false,wM];rw[hiter]
 . simp(disch:=apply zq;omega) only[go_sem,simprocAttr,↓wB,xx,h68]
 . simp(disch:=apply zq;omega) only[go_sem,simprocAttr,↓wB,xx,S68,h68,wM]
noncomputable def L69:MC:=wq 0 m84
noncomputable def zB:MC:=wq 2 m84
def sel (K:List Int)(m l k:Nat):Nat:=if k<m/\nth K k<nth K l then k else l
theorem rO {K:List Int}{m l k:Nat}(h:l<m):sel K m l k<m:=by unfold sel;split<;>omega
def lea (K:List Int)(m i:Nat):Nat:=sel K m (sel K m i (2*i+1)) (2*i+2)
def h69 (m:Nat)(K V:List Int):Hp:=[(100002,.grow .sc (ns V)),(100001,.grow .sc (ns K)),(100000,.fix sHp (.aggR [.sl 100001 [] 0 m,.sl 100002 [] 0 m]))]
def f69 (m i:Nat)(key v:Int):Fr:=[.set 7 (i64 (i:Int)),.set 6 (i64 (m:Int)),.set 5 (i64 v),.set 4 (i64 key),.set 0 (.ptr 100000 [])]
def mD (m:Nat)(K V:List Int)(p1 p2 i:Nat)(key v:Int)(l j:Nat):St :=
 ⟨[.set 59 (i64 (j:Int)),.set 58 (i64 2),.set 57 (.sl 57 [] 0 2),.set 8 (i64 (l:Int))]++f69 m i key v,h69 m K V++[(57,.grow .sc [i64 (p1:Int),i64 (p2:Int)])]⟩
theorem DO {d m:Nat}{K V:List Int}{p1 p2 i:Nat}{key v:Int}{l j:Nat}(h1:m<=K.length)(hl:l<m\/m=0)(hj:j<2)(hi:m<=30000000000) :
  aK Xx (evC gl (call gl tab d) zB (mD m K V p1 p2 i key v l j))=some (mD m K V p1 p2 i key v (sel K m l (if j=0 then p1 else p2)) (j+1)):=by
 have hcc:j=0\/j=1:=by omega
 have key0:∀p:Nat,(p<m->(ns K)[p]? =some (i64 (nth K p))):=fun p hp=>bc (by omega)
 rcases hcc with rfl|rfl
 . rw[if_pos rfl];by_cases hk:p1<m
   . have x1:=bc (show l<K.length by omega);have x2:=key0 p1 hk;by_cases hc:nth K p1<nth K l
     . rw[sel,if_pos ⟨hk,hc⟩];simp(disch:=apply zq;omega) only[go_sem,simprocAttr,↓wB,xx,zB,mD,f69,h69,ae,x1,x2]
     . rw[sel,if_neg (fun h=>hc h.2)];simp(disch:=apply zq;omega) only[go_sem,simprocAttr,↓wB,xx,zB,mD,f69,h69,ae,x1,x2]
   . rw[sel,if_neg (fun h=>hk h.1)];simp(disch:=apply zq;omega) only[go_sem,simprocAttr,↓wB,xx,zB,mD,f69,h69,ae]
 . rw[if_neg (by omega)];by_cases hk:p2<m
   . have x1:=bc (show l<K.length by omega);have x2:=key0 p2 hk;by_cases hc:nth K p2<nth K l
     . rw[sel,if_pos ⟨hk,hc⟩];simp(disch:=apply zq;omega) only[go_sem,simprocAttr,↓wB,xx,zB,mD,f69,h69,ae,x1,x2]
     . rw[sel,if_neg (fun h=>hc h.2)];simp(disch:=apply zq;omega) only[go_sem,simprocAttr,↓wB,xx,zB,mD,f69,h69,ae,x1,x2]
   . rw[sel,if_neg (fun h=>hk h.1)];simp(disch:=apply zq;omega) only[go_sem,simprocAttr,↓wB,xx,zB,mD,f69,h69,ae]
def S69 (m:Nat)(key v:Int)(a:PS):St:=⟨f69 m a.i key v,h69 m a.K a.V⟩
def n69 (m:Nat)(a:PS):PS:=⟨swp a.K a.i (lea a.K m a.i),swp a.V a.i (lea a.K m a.i),lea a.K m a.i⟩
theorem QL {d m:Nat}{a:PS}{key v:Int}(h1:m<=a.K.length)(h2:m<=a.V.length)(hi:a.i<m)(hm:m<=30000000000)(hg:lea a.K m a.i≠a.i) :
  aK K69 (evC gl (call gl tab (d+1)) L69 (S69 m key v a))=some (S69 m key v (n69 m a)):=by
 obtain⟨K,V,i⟩:=a;simp only at h1 h2 hi hg;have hs:=fun l j hl hj=>@DO gl (d+1) m K V (2*i+1) (2*i+2) i key v l j h1 hl hj hm
 have hl1:sel K m i (2*i+1)<m:=rO hi;have hl2:lea K m i<m:=rO hl1;have c:=@xC gl (d+1) (by omega) K V m i (lea K m i) hi hl2 (by omega) (by omega);have e1:2*(i:Int)+1=((2*i+1:Nat):Int):=by omega
 have e2:2*(i:Int)+2=((2*i+2:Nat):Int):=by omega
 have hs0:=hs i 0 (.inl hi) (by omega);have hs1:=hs (sel K m i (2*i+1)) 1 (.inl hl1) (by omega);rw[if_pos rfl]at hs0;rw[if_neg (by omega)]at hs1;have hsl:sel K m (sel K m i (2*i+1)) (2*i+2)=lea K m i:=rfl;rw[hsl]at hs1;simp only[n69];have b1:2*i+1<=60000000001:=by omega
 have b2:2*i+2<=60000000002:=by omega
 generalize sel K m i (2*i+1)=l1 at *
 generalize lea K m i=l2 at *
 generalize 2*i+1=p1 at *
 generalize 2*i+2=p2 at *
 have hg2:((l2:Int)==(i:Int))=false:=by rw[beq_eq_false_iff_ne];omega
 simp only[zB,wq]at hs0 hs1;simp(disch:=apply zq;omega) only[go_sem,simprocAttr,↓wB,xx,L69,S69,f69,h69,e1,e2];rw[aE (fun j=>mD m K V p1 p2 i key v (if j=0 then i else if j=1 then l1 else l2) j) 2 (by unfold LF;omega)]
 . simp(disch:=apply zq;omega) only[go_sem,simprocAttr,↓wB,xx,mD,f69,h69,hg2,c]
 . simp(disch:=apply zq;omega) only[go_sem,simprocAttr,↓wB,xx,mD,f69,h69]
 . intro j hj;have hcc:j=0\/j=1:=by omega
   rcases hcc with rfl|rfl
   . exact hs0
   . exact hs1
 . simp(disch:=apply zq;omega) only[go_sem,simprocAttr,↓wB,xx,mD,f69,h69]
theorem PT {d m:Nat}{a:PS}{key v:Int}(h1:m<=a.K.length)(hi:a.i<m\/(a.i=0/\m=0))(hm:m<=30000000000)(hg:lea a.K m a.i=a.i) :
  ∃fr w,evC gl (call gl tab (d+1)) L69 (S69 m key v a)=some (.ret,⟨.set 3 (i64 v)::.set 2 (i64 key)::fr,h69 m a.K a.V++[(57,.grow .sc w)]⟩):=by
 obtain⟨K,V,i⟩:=a;simp only at h1 hi hg;have hs:=fun l j hl hj=>@DO gl (d+1) m K V (2*i+1) (2*i+2) i key v l j h1 hl hj hm
 have hl1:sel K m i (2*i+1)<m\/m=0:=by
  rcases hi with hi|hi
  . exact .inl (rO hi)
  . exact .inr hi.2
 have e1:2*(i:Int)+1=((2*i+1:Nat):Int):=by omega
 have e2:2*(i:Int)+2=((2*i+2:Nat):Int):=by omega
 have hs0:=hs i 0 (by omega) (by omega);have hs1:=hs (sel K m i (2*i+1)) 1 hl1 (by omega);rw[if_pos rfl]at hs0;rw[if_neg (by omega)]at hs1;have hsl:sel K m (sel K m i (2*i+1)) (2*i+2)=i:=hg;rw[hsl]at hs1;have b0:i<=30000000000:=by omega
 have b1:2*i+1<=60000000001:=by omega
 have b2:2*i+2<=60000000002:=by omega
 generalize sel K m i (2*i+1)=l1 at *
 generalize 2*i+1=p1 at *
 generalize 2*i+2=p2 at *
 simp only[zB,wq]at hs0 hs1;refine⟨?_,?_,?_⟩
 rotate_left
 rotate_left
 . simp(disch:=apply zq;omega) only[go_sem,simprocAttr,↓wB,xx,L69,S69,f69,h69,e1,e2];rw[aE (fun j=>mD m K V p1 p2 i key v (if j=0 then i else if j=1 then l1 else i) j) 2 (by unfold LF;omega)]
   . simp(disch:=apply zq;omega) only[go_sem,simprocAttr,↓wB,xx,mD,f69,h69];rfl
   . simp(disch:=apply zq;omega) only[go_sem,simprocAttr,↓wB,xx,mD,f69,h69]
   . intro j hj;have hcc:j=0\/j=1:=by omega
     rcases hcc with rfl|rfl
     . exact hs0
     . exact hs1
   . simp(disch:=apply zq;omega) only[go_sem,simprocAttr,↓wB,xx,mD,f69,h69]
theorem RE (h:2<=n){K V:List Int}{m L:Nat}(h1:K.length=L)(h2:V.length=L)(hL:m+1<=L)(hm:m<=20000000000):∃K' V':List Int,K'.length=L/\V'.length=L/\(prs K V (m+1)).Perm ((nth K 0,nth V 0)::prs K' V' m) /\
  call gl tab n 84 [.ptr 100000 []] [(100000,.fix sHp (.aggR [.sl 100001 [] 0 (m+1),.sl 100002 [] 0 (m+1)])),(100001,.grow .sc (ns K)),(100002,.grow .sc (ns V))] =
  some (.tup [i64 (nth K 0),i64 (nth V 0)],[(100000,.fix sHp (.aggR [.sl 100001 [] 0 m,.sl 100002 [] 0 m])),(100001,.grow .sc (ns K')),(100002,.grow .sc (ns V'))],[]):=by
 obtain⟨d,rfl⟩:=wC h;have x1:=bc (show 0<K.length by omega);have x2:=bc (show 0<V.length by omega);have c:=@xC gl (d+1) (by omega) K V (m+1) 0 m (by omega) (by omega) (by omega) (by omega);rw[show((0:Nat):Int)=0 from rfl]at c;have p0:(prs K V (m+1)).Perm ((nth K 0,nth V 0)::prs (swp K 0 m) (swp V 0 m) m):=by
  have h1:=(xZ (K:=K) (V:=V) (m:=m+1) (i:=0) (k:=m) (by omega) (by omega) (by omega) (by omega)).symm;have h2:prs (swp K 0 m) (swp V 0 m) (m+1)=(nth K 0,nth V 0)::prs (swp K 0 m) (swp V 0 m) m:=by rw[prs,qR (by omega) (by omega),qR (by omega) (by omega),if_pos rfl,if_pos rfl]
  rw[h2]at h1;exact h1
 have n1:(swp K 0 m).length=L:=by rw[fS,h1]
 have n2:(swp V 0 m).length=L:=by rw[fS,h2]
 generalize nth K 0=key at *
 generalize nth V 0=v at *
 generalize swp K 0 m=K0 at *
 generalize swp V 0 m=V0 at *
 obtain⟨a,⟨i1,i2,i3,i4⟩,ag,hiter⟩:=l4 (f:=evC gl (call gl tab (d+1)) L69) (ks:=K69) (S69 m key v) (fun a=>a.K.length=L/\a.V.length=L/\(a.i<m\/(a.i=0/\m=0))/\(prs a.K a.V m).Perm (prs K0 V0 m)) (fun a=>m-a.i) (n69 m) (fun a=>decide (lea a.K m a.i≠a.i)) (a0:=⟨K0,V0,0⟩) (by show m-0<LF;unfold LF;omega) ⟨n1,n2,by show 0<m\/(0=0/\m=0);omega,.refl _⟩
  (fun a ⟨i1,i2,i3,i4⟩ hg=>by
    rw[decide_eq_true_eq]at hg;have hlt:a.i<m:=by
     rcases i3 with h|⟨h1,h2⟩
     . exact h
     . exfalso;apply hg;subst h2;rw[h1];rfl
    have hl1:sel a.K m a.i (2*a.i+1)<m:=rO hlt;have hl2:lea a.K m a.i<m:=rO hl1;have hgt:a.i<lea a.K m a.i:=by
     have:lea a.K m a.i=a.i\/a.i<lea a.K m a.i:=by unfold lea sel;split<;>(try split)<;>omega
     omega
    refine⟨QL (by omega) (by omega) hlt (by omega) hg,⟨by simp only[n69,fS];exact i1,by simp only[n69,fS];exact i2,by simp only[n69];exact .inl hl2,?_⟩,by simp only[n69];omega⟩;exact(xZ hlt hl2 (by omega) (by omega)).trans i4)
  (fun a ⟨i1,i2,i3,i4⟩ hg=>by
    rw[decide_eq_false_iff_not,Decidable.not_not]at hg;obtain⟨fr,w,e⟩:=@PT gl d m a key v (by omega) i3 (by omega) hg;rw[e];rfl)
 rw[decide_eq_false_iff_not,Decidable.not_not]at ag;obtain⟨fr,w,he⟩:=@PT gl d m a key v (by omega) i3 (by omega) ag;rw[he]at hiter;simp only[L69,wq]at hiter;refine⟨a.K,a.V,i1,i2,p0.trans (i4.symm.cons _),?_⟩;rw[bf (fd:=SX) rfl];simp(disch:=apply zq;omega) only[go_sem,simprocAttr,↓wB,xx,SX,m84,ae,h1,h2,x1,x2,c,n1,n2,wM];rw[hiter]
 . simp(disch:=apply zq;omega) only[go_sem,simprocAttr,↓wB,xx,h69]
 . simp(disch:=apply zq;omega) only[go_sem,simprocAttr,↓wB,xx,S69,h69,f69,wM,Nat.sub_zero]
theorem U7 (h:1<=n){v:BitVec 64}(hv:v.toNat<=1000):call gl tab n 123 [.int .u64 1,.int .u64 (v.toNat:Int)] []=some (.tup [.int .u64 0,.int .u64 (v.toNat:Int)],[],[]):=by
 obtain⟨d,rfl⟩:=wC h;have e1:(1#64*v)=v:=BitVec.one_mul _;have e0:(0#64*v)=0#64:=BitVec.zero_mul;have e3:v>>>32=0#64:=by apply BitVec.eq_of_toNat_eq;rw[BitVec.toNat_ushiftRight,Nat.shiftRight_eq_div_pow];simp;omega
 have e4:(0#64+(0#64+0#64)>>>32+((0#64+0#64&&&4294967295#64)+0#64)>>>32).toNat=0:=by decide
 rw[au (fd:=KB) rfl];have d1:bW .shr .u64 1 32=some (.int .u64 0):=rfl;have d0:bW .shr .u64 0 32=some (.int .u64 0):=rfl;have e5:v&&&4294967295#64=v:=by apply BitVec.eq_of_toNat_eq;rw[BitVec.toNat_and,show(4294967295#64).toNat=2^32-1 from rfl,Nat.and_two_pow_sub_one_eq_mod];omega
 simp(disch:=apply zq;omega) only[go_sem,simprocAttr,↓wB,xx,KB,Vb,e0,e1,e3,d1,d0,e5,e4]
theorem U8 (h:2<=n){v:BitVec 64}(hv:v.toNat<=1000):call gl tab n 111 [.int .u64 1,.int .u64 (v.toNat:Int)] []=some (.tup [.int .u64 0,.int .u64 (v.toNat:Int)],[],[]):=by obtain⟨d,rfl⟩:=wC h;have c:=@U7 gl (d+1) (by omega) v hv;rw[au (fd:=KJ) rfl];simp(disch:=apply zq;omega) only[go_sem,simprocAttr,↓wB,xx,KJ,Vg,c]
noncomputable def L67:MC:=wq 0 m82
def S67 (N:Nat)(x:Int)(k:Nat):St:=⟨[.set 8 (i64 (k:Int)),.set 7 (.sl 30 [] 0 N)],[(30,.grow .sc (ns (List.replicate k x++List.replicate (N-k) 0)))]⟩
def qK (N k:Nat):Nat:=k+min (N-k) k
theorem QN {d N k:Nat}{x:Int}(h0:0<k)(hk:k<N)(hN:N<=1000):aK [.slot 7,.slot 8,.key 30] (evC gl (call gl tab d) L67 (S67 N x k))=some (S67 N x (qK N k)):=by
 have hl:(List.replicate k x++List.replicate (N-k) (0:Int)).length=N:=by simp;omega
 have e1:List.take (k-0) (ns (List.replicate k x++List.replicate (N-k) 0))=ns (List.replicate k x):=by simp[ns,wG]
 have e2:List.take k (ns (List.replicate k x++List.replicate (N-k) 0))=ns (List.replicate k x):=by simp[ns,wG]
 have e3:(ns (List.replicate k x)).length=k:=by simp[ns]
 have e4:List.take (min k (N-k)) (ns (List.replicate k x))=ns (List.replicate (min k (N-k)) x):=by simp[ns,List.take_replicate]
 have e5:List.drop (k+min k (N-k)) (ns (List.replicate k x++List.replicate (N-k) 0))=ns (List.replicate (N-qK N k) 0):=by simp[ns,List.drop_append,qK];omega
 have e6:ns (List.replicate k x)++ns (List.replicate (min k (N-k)) x)++ns (List.replicate (N-qK N k) 0)=ns (List.replicate (qK N k) x++List.replicate (N-qK N k) 0):=by simp[ns,qK];rw[Nat.min_comm]
 have e7:(k:Int)+((min k (N-k):Nat):Int)=((qK N k:Nat):Int):=by unfold qK;omega
 simp(disch:=apply zq;omega) only[go_sem,simprocAttr,↓wB,xx,L67,S67,ae,hl];rw[e1,e3,e2,e4,e5,e6,e7]
theorem Fc (h:3<=n){N:Nat}{x:Int}(hN:N<=1000)(h0:0<N):call gl tab n 82 [.lst false .sc [i64 x],i64 (N:Int)] []=some (.sl 20000 [] 0 N,[],[.grow .sc (ns (List.replicate N x))]):=by
 obtain⟨d,rfl⟩:=wC h;have e2:(BitVec.ofNat 64 N).toNat=N:=by simp;omega
 have c:=@U8 gl (d+2) (by omega) (BitVec.ofNat 64 N) (by rw[e2];exact hN);have hl:N<=LIM:=by unfold LIM;omega
 have m1:min 1 N=1:=by omega
 have e3:[i64 x]++List.drop 1 (List.replicate N (i64 0))=ns (List.replicate 1 x++List.replicate (N-1) 0):=by simp[ns]
 obtain⟨k,i1,i2,i3⟩:=l4 (f:=evC gl (call gl tab (d+2)) L67) (ks:=[.slot 7,.slot 8,.key 30]) (S67 N x) (fun k=>0<k/\k<=N) (fun k=>N-k) (qK N) (fun k=>decide (k<N)) (a0:=1) (by unfold LF;omega) ⟨by omega,by omega⟩
  (fun k ⟨i1,i2⟩ hg=>by
    rw[decide_eq_true_eq]at hg;exact⟨QN i1 hg hN,by unfold qK;omega,by unfold qK;omega⟩)
  (fun k ⟨i1,i2⟩ hg=>by
    rw[decide_eq_false_iff_not]at hg;obtain rfl:k=N:=by omega
    have hl:(List.replicate k x++List.replicate (k-k) (0:Int)).length=k:=by simp
    simp(disch:=apply zq;omega) only[go_sem,simprocAttr,↓wB,xx,L67,S67,ae,hl])
 rw[decide_eq_false_iff_not]at i2;obtain rfl:k=N:=by omega
 have hl2:(List.replicate k x++List.replicate (k-k) (0:Int)).length=k:=by simp
 have e4:List.replicate k x++List.replicate (k-k) (0:Int)=List.replicate k x:=by simp
 simp only[L67,wq]at i3;rw[au (fd:=SY) rfl];simp(disch:=apply zq;omega) only[go_sem,simprocAttr,↓wB,xx,SY,m82,c];simp only[e2];simp(disch:=apply zq;omega) only[go_sem,simprocAttr,↓wB,xx,hl,m1,List.take_succ_cons,List.take_zero,wH];rw[i3]
 . simp(disch:=apply zq;omega) only[go_sem,simprocAttr,↓wB,xx,S67,ae,hl2,e4,wH]
 . simp(disch:=apply zq;omega) only[go_sem,simprocAttr,↓wB,xx,S67];have e5:i64 x::List.drop 1 (List.replicate k (AV.int IntKind.i64 0))=ns (x::List.replicate (k-1) 0):=e3;rw[e5]
abbrev nwV (g:Nt)(b:Bool)(sh:Sh)(kf kp:Nat):AV:=.aggR [.agg [i64 (g.n:Int),.lst b sh (rs g.a)],.sl kf [] 0 g.a.length,.lst false .sc (Ce g),.sl kp [] 0 g.n]
noncomputable def L49:MC:=wq 0 m57
def S49 (g:Nt)(b:Bool)(sh:Sh)(fl pr out K V:List Int)(m:Nat):St :=
 ⟨[.set 6 (.ptr 6 []),.set 5 (.ptr 5 []),.set 2 (.ptr 2 [])],
   [(100002,.grow .sc (ns pr)),(100001,.grow .sc (ns fl)),(100000,.fix sNw (nwV g b sh 100001 100002)),(6221,.grow .sc (ns V)),(6220,.grow .sc (ns K)),(22,.fix sHp (.aggR [.sl 6220 [] 0 m,.sl 6221 [] 0 m])),(17,.grow .sc (ns out)),(6,.fix .sc (.ptr 22 [])),(5,.fix .sc (.sl 17 [] 0 g.n)),(2,.fix .sc (.ptr 100000 []))]⟩
theorem ME {d:Nat}{g:Nt}{b:Bool}{sh:Sh}{fl pr out K V:List Int}{m u:Nat}{di:Int}(ho:out.length=g.n){K' V':List Int}(hu:u<g.n)(hd:nth out u<di)
  (c69:call gl tab (d+3) 84 [.ptr 100000 []] [(100000,.fix sHp (.aggR [.sl 100001 [] 0 (m+1),.sl 100002 [] 0 (m+1)])),(100001,.grow .sc (ns K)),(100002,.grow .sc (ns V))] =
  some (.tup [i64 di,i64 (u:Int)],[(100000,.fix sHp (.aggR [.sl 100001 [] 0 m,.sl 100002 [] 0 m])),(100001,.grow .sc (ns K')),(100002,.grow .sc (ns V'))],[])) :
  aK K49 (evC gl (call gl tab (d+3)) L49 (S49 g b sh fl pr out K V (m+1)))=some (S49 g b sh fl pr out K' V' m):=by
 have x1:=bc (show u<out.length by omega);simp(disch:=apply zq;omega) only[go_sem,simprocAttr,↓wB,xx,L49,S49,c69,x1,ae,ho]
abbrev nwH (g:Nt)(b:Bool)(sh:Sh)(fl pr:List Int):Hp:=[(100000,.fix sNw (nwV g b sh 100001 100002)),(100001,.grow .sc (ns fl)),(100002,.grow .sc (ns pr))]
theorem ways_at (h:1<=n){g:Nt}{b:Bool}{sh:Sh}{fl pr:List Int}{u:Nat}:call gl tab n 85 [.ptr 100000 [],i64 (u:Int)] (nwH g b sh fl pr)=some (.fn 113 [.ptr 20000 [],.ptr 20001 []],nwH g b sh fl pr,[.fix .sc (.ptr 100000 []),.fix .sc (i64 (u:Int))]):=by obtain⟨d,rfl⟩:=wC h;rw[bf (fd:=SW) rfl];simp(disch:=apply zq;omega) only[go_sem,simprocAttr,↓wB,xx,SW,m85]
def iF (g:Nt)(b:Bool)(sh:Sh)(fl pr out K V:List Int)(m:Nat)(di:Int)(u:Nat):Hp :=
 [(100000,.lp 570 [.ptr 100001 [],.ptr 100005 [],.ptr 100007 [],.ptr 100011 [],.ptr 100012 []] .ready),(100001,.fix .sc (.ptr 100002 [])),(100002,.fix sNw (nwV g b sh 100003 100004)),(100003,.grow .sc (ns fl)),(100004,.grow .sc (ns pr)),(100005,.fix .sc (.sl 100006 [] 0 g.n)),(100006,.grow .sc (ns out)),(100007,.fix .sc (.ptr 100008 [])),(100008,.fix sHp (.aggR [.sl 100009 [] 0 m,.sl 100010 [] 0 m])),(100009,.grow .sc (ns K)),(100010,.grow .sc (ns V)),(100011,.fix .sc (i64 di)),(100012,.fix .sc (i64 (u:Int)))]
def uR (g:Nt)(b:Bool)(sh:Sh)(fl pr out:List Int)(k1 k2 m:Nat)(di:Int)(u:Nat):Hp :=
 [(100000,.lp 570 [.ptr 100001 [],.ptr 100005 [],.ptr 100007 [],.ptr 100011 [],.ptr 100012 []] .ready),(100001,.fix .sc (.ptr 100002 [])),(100002,.fix sNw (nwV g b sh 100003 100004)),(100003,.grow .sc (ns fl)),(100004,.grow .sc (ns pr)),(100005,.fix .sc (.sl 100006 [] 0 g.n)),(100006,.grow .sc (ns out)),(100007,.fix .sc (.ptr 100008 [])),(100008,.fix sHp (.aggR [.sl k1 [] 0 m,.sl k2 [] 0 m])),(100009,.dead),(100010,.dead),(100011,.fix .sc (i64 di)),(100012,.fix .sc (i64 (u:Int)))]
theorem eK {l:List Int}{k:Nat}(h:l.length=k):(ns l).take k=ns l:=List.take_of_length_le (by rw[ae];omega)
section
variable {g :Nt} {b:Bool} {sh:Sh} {fl pr out K V:List Int} {m u i t:Nat} {di r c:Int} {bk:Bool} (hf:fl.length=g.a.length) (ho:out.length=g.n) (hp:pr.length=g.n) (hu:u<g.n) (ht:t<g.n)
  (hc:-1073741824<=c/\c<=1073741824) (h1:0<=nth pr u/\nth pr u<=1099511627776) (h2:0<=nth pr t/\nth pr t<=1099511627776) (hd:0<=di/\di<=4611686018427387904)
include hf ho hp hu ht hc h1 h2 hd
theorem Ab (h:2<=n)(hn:nth out t<=di+(c+nth pr u-nth pr t)) :
  call gl tab n 1000570 [wV i t r c bk] (iF g b sh fl pr out K V m di u)=some (.bool true,iF g b sh fl pr out K V m di u,[]):=by
 obtain⟨d,rfl⟩:=wC h;have c71:=@ie gl (d+1) (by omega) g b sh false false fl pr u i t r c bk (by omega) (by omega) hc h1 h2;have x1:=bc (show t<out.length by omega);have t1:=eK hf;have t2:=eK hp;have hn:nth out t<=di+c+nth pr u-nth pr t:=by omega
 generalize hz:c+nth pr u-nth pr t=z at *
 have hz1:-1099511627776-1073741824<=z/\z<=1099511627776+1073741824:=by omega
 rw[cX (fd:=lu) rfl rfl];simp(disch:=apply zq;omega) only[go_sem,simprocAttr,↓wB,xx,lu,Aw,Av,iF,c71,x1,ae,ho,hf,hp,t1,t2]
theorem xN (h:4<=n)(hn:di+(c+nth pr u-nth pr t)<nth out t)(h0:0<=di+(c+nth pr u-nth pr t))(hK:K.length=m)(hV:V.length=m)(hm:m<=20000000000):∃K' V':List Int,K'.length=m+1/\V'.length=m+1/\(prs K' V' (m+1)).Perm ((di+(c+nth pr u-nth pr t),(t:Int))::prs K V m) /\
  call gl tab n 1000570 [wV i t r c bk] (iF g b sh fl pr out K V m di u)=some (.bool true,uR g b sh fl pr (out.set t (di+(c+nth pr u-nth pr t))) 20000 20001 (m+1) di u,[.grow .sc (ns K'),.grow .sc (ns V')]):=by
 obtain⟨d,rfl⟩:=wC h;have c71:=@ie gl (d+3) (by omega) g b sh false false fl pr u i t r c bk (by omega) (by omega) hc h1 h2;have x1:=bc (show t<out.length by omega);have t1:=eK hf;have t2:=eK hp;have hz1:-1099511627776-1073741824<=c+nth pr u-nth pr t/\c+nth pr u-nth pr t<=1099511627776+1073741824:=by omega
 generalize hz:c+nth pr u-nth pr t=z at *
 obtain⟨K',V',e1,e2,e3,c68⟩:=@IB gl (d+3) (by omega) K V m (di+z) t hK hV hm;refine⟨K',V',e1,e2,e3,?_⟩;rw[cX (fd:=lu) rfl rfl];simp(disch:=apply zq;omega) only[go_sem,simprocAttr,↓wB,xx,lu,Aw,Av,iF,c71,x1,ae,ho,hf,hp,t1,t2,c68,uR,fB]
theorem Ac (h:4<=n)(hn:di+(c+nth pr u-nth pr t)<nth out t)(h0:0<=di+(c+nth pr u-nth pr t)){L:Nat}(hK:K.length=L)(hV:V.length=L)(hL:m+1<=L)(hm:m<=20000000000):∃K' V':List Int,K'.length=L/\V'.length=L/\(prs K' V' (m+1)).Perm ((di+(c+nth pr u-nth pr t),(t:Int))::prs K V m) /\
  call gl tab n 1000570 [wV i t r c bk] (iF g b sh fl pr out K V m di u)=some (.bool true,iF g b sh fl pr (out.set t (di+(c+nth pr u-nth pr t))) K' V' (m+1) di u,[]):=by
 obtain⟨d,rfl⟩:=wC h;have c71:=@ie gl (d+3) (by omega) g b sh false false fl pr u i t r c bk (by omega) (by omega) hc h1 h2;have x1:=bc (show t<out.length by omega);have t1:=eK hf;have t2:=eK hp;have hz1:-1099511627776-1073741824<=c+nth pr u-nth pr t/\c+nth pr u-nth pr t<=1099511627776+1073741824:=by omega
 generalize hz:c+nth pr u-nth pr t=z at *
 obtain⟨K',V',e1,e2,e3,c68⟩:=@M7 gl (d+3) (by omega) K V m L (di+z) t hK hV hL hm;refine⟨K',V',e1,e2,e3,?_⟩;rw[cX (fd:=lu) rfl rfl];simp(disch:=apply zq;omega) only[go_sem,simprocAttr,↓wB,xx,lu,Aw,Av,iF,c71,x1,ae,ho,hf,hp,t1,t2,c68,fB]
end
noncomputable def L90:MC:=wq 0 Ci
def bko (g:Nt)(u i:Nat):Bool:= !decide ((art g.a i).f=u)
def f90 (q:List AV)(j:Nat):Fr:=[.set 16 (i64 (j:Int)),.set 15 (i64 (q.length:Int)),.set 14 (.lst false .sc q),.set 2 (.ptr 100014 []),.set 1 (.ptr 100013 []),.set 0 (.yld 100000)]
def h90 (B:Bool)(g:Nt)(b:Bool)(sh:Sh)(fl pr out K V:List Int)(m:Nat)(di:Int)(u:Nat):Hp :=
 if B then [(100014,.fix .sc (i64 (u:Int))),(100013,.fix .sc (.ptr 100002 [])),(100012,.fix .sc (i64 (u:Int))),(100011,.fix .sc (i64 di)),(100010,.dead),(100009,.dead),(100008,.fix sHp (.aggR [.sl 8080 [] 0 m,.sl 8081 [] 0 m])),(100007,.fix .sc (.ptr 100008 [])),(100006,.grow .sc (ns out)),(100005,.fix .sc (.sl 100006 [] 0 g.n)),(100004,.grow .sc (ns pr)),(100003,.grow .sc (ns fl)),(100002,.fix sNw (nwV g b sh 100003 100004)),(100001,.fix .sc (.ptr 100002 [])),(100000,.lp 570 [.ptr 100001 [],.ptr 100005 [],.ptr 100007 [],.ptr 100011 [],.ptr 100012 []] .ready),(8081,.grow .sc (ns V)),(8080,.grow .sc (ns K))]
 else [(100014,.fix .sc (i64 (u:Int))),(100013,.fix .sc (.ptr 100002 [])),(100012,.fix .sc (i64 (u:Int))),(100011,.fix .sc (i64 di)),(100010,.grow .sc (ns V)),(100009,.grow .sc (ns K)),(100008,.fix sHp (.aggR [.sl 100009 [] 0 m,.sl 100010 [] 0 m])),(100007,.fix .sc (.ptr 100008 [])),(100006,.grow .sc (ns out)),(100005,.fix .sc (.sl 100006 [] 0 g.n)),(100004,.grow .sc (ns pr)),(100003,.grow .sc (ns fl)),(100002,.fix sNw (nwV g b sh 100003 100004)),(100001,.fix .sc (.ptr 100002 [])),(100000,.lp 570 [.ptr 100001 [],.ptr 100005 [],.ptr 100007 [],.ptr 100011 [],.ptr 100012 []] .ready)]
def S90 (B:Bool)(g:Nt)(b:Bool)(sh:Sh)(fl pr out K V:List Int)(m:Nat)(di:Int)(u:Nat)(q:List AV)(j:Nat):St:=⟨f90 q j,h90 B g b sh fl pr out K V m di u⟩
section
variable {d :Nat} {g:Nt} {b:Bool} {fl pr out K V:List Int} {m u k:Nat} {di:Int} {q:List AV} {j:Nat} (hf:fl.length=g.a.length) (hM:g.a.length<=4000) (hq:q[j]? =some (i64 (k:Int))) (hk:inc g u k)
 (hb:FB g fl) (hcb:∀i,i<g.a.length->(art g.a i).c<=1073741824) (hkb:∀i,i<g.a.length->0<=(art g.a i).k/\(art g.a i).k<=1048576) (hql:q.length<=4000)
include hf hM hq hk hb hcb hkb hql
set_option maxHeartbeats 4000000 in
theorem Rk {B:Bool}(hr:¬0<room g fl u k):aK K90 (evC gl (call gl tab (d+1)) L90 (S90 B g b yA4 fl pr out K V m di u q j))=some (S90 B g b yA4 fl pr out K V m di u q (j+1)):=by
 have hj:j<q.length:=by have:=wF.1 hq;exact this.1
 have x1:=dY hk.1;have x2:=bc (show k<fl.length by rw[hf];exact hk.1);have h1:=hb.b k hk.1;have h2:=hcb k hk.1;have h3:=hkb k hk.1;have h4:=hk.1;unfold room at hr;by_cases e:(art g.a k).f=u
 . rw[if_pos e]at hr;cases B
   . simp(disch:=apply zq;omega) only[go_sem,simprocAttr,↓wB,xx,L90,S90,f90,h90,hq,x1,x2,ak,ae,hf,e]
   . simp(disch:=apply zq;omega) only[go_sem,simprocAttr,↓wB,xx,L90,S90,f90,h90,hq,x1,x2,ak,ae,hf,e]
 . rw[if_neg e]at hr;have e2:(((art g.a k).f:Int) != (u:Int))=true:=by simp;omega
   cases B
   . simp(disch:=apply zq;omega) only[go_sem,simprocAttr,↓wB,xx,L90,S90,f90,h90,hq,x1,x2,ak,ae,hf,e2]
   . simp(disch:=apply zq;omega) only[go_sem,simprocAttr,↓wB,xx,L90,S90,f90,h90,hq,x1,x2,ak,ae,hf,e2]
set_option maxHeartbeats 4000000 in
theorem VG {B:Bool}{out' K' V':List Int}{m':Nat}(hr:0<room g fl u k)(c:call gl tab (d+1) 1000570 [wV k (oth g u k) (room g fl u k) (cst g u k) (bko g u k)] (iF g b yA4 fl pr out K V m di u)=some (.bool true,iF g b yA4 fl pr out' K' V' m' di u,[])) :
  aK K90 (evC gl (call gl tab (d+1)) L90 (S90 B g b yA4 fl pr out K V m di u q j))=some (S90 B g b yA4 fl pr out' K' V' m' di u q (j+1)):=by
 have hj:j<q.length:=by have:=wF.1 hq;exact this.1
 have x1:=dY hk.1;have x2:=bc (show k<fl.length by rw[hf];exact hk.1);have h1:=hb.b k hk.1;have h2:=hcb k hk.1;have h3:=hkb k hk.1;have h4:=hk.1;unfold room oth cst bko at c;unfold room at hr;by_cases e:(art g.a k).f=u
 . rw[if_pos e]at hr;rw[if_pos e,if_pos e,if_pos e,decide_eq_true e]at c;simp only[iF,uR,Bool.not_true]at c;cases B
   . simp(disch:=apply zq;omega) only[go_sem,simprocAttr,↓wB,xx,L90,S90,f90,h90,hq,x1,x2,ak,ae,hf,e,c,bH]
   . simp(disch:=apply zq;omega) only[go_sem,simprocAttr,↓wB,xx,L90,S90,f90,h90,hq,x1,x2,ak,ae,hf,e,c,bH]
 . rw[if_neg e]at hr;have e2:(((art g.a k).f:Int) != (u:Int))=true:=by simp;omega
   rw[if_neg e,if_neg e,if_neg e,decide_eq_false e,show -(art g.a k).k=0-(art g.a k).k by omega]at c;simp only[iF,uR,Bool.not_false]at c;cases B
   . simp(disch:=apply zq;omega) only[go_sem,simprocAttr,↓wB,xx,L90,S90,f90,h90,hq,x1,x2,ak,ae,hf,e2,c,bH]
   . simp(disch:=apply zq;omega) only[go_sem,simprocAttr,↓wB,xx,L90,S90,f90,h90,hq,x1,x2,ak,ae,hf,e2,c,bH]
set_option maxHeartbeats 4000000 in
theorem U6 {B:Bool}{out' K' V':List Int}{m':Nat}(hr:0<room g fl u k)(c:call gl tab (d+1) 1000570 [wV k (oth g u k) (room g fl u k) (cst g u k) (bko g u k)] (iF g b yA4 fl pr out K V m di u)=some (.bool true,uR g b yA4 fl pr out' 20000 20001 m' di u,[.grow .sc (ns K'),.grow .sc (ns V')])) :
  aK K90 (evC gl (call gl tab (d+1)) L90 (S90 B g b yA4 fl pr out K V m di u q j))=some (S90 true g b yA4 fl pr out' K' V' m' di u q (j+1)):=by
 have hj:j<q.length:=by have:=wF.1 hq;exact this.1
 have x1:=dY hk.1;have x2:=bc (show k<fl.length by rw[hf];exact hk.1);have h1:=hb.b k hk.1;have h2:=hcb k hk.1;have h3:=hkb k hk.1;have h4:=hk.1;unfold room oth cst bko at c;unfold room at hr;by_cases e:(art g.a k).f=u
 . rw[if_pos e]at hr;rw[if_pos e,if_pos e,if_pos e,decide_eq_true e]at c;simp only[iF,uR,Bool.not_true]at c;cases B
   . simp(disch:=apply zq;omega) only[go_sem,simprocAttr,↓wB,xx,L90,S90,f90,h90,hq,x1,x2,ak,ae,hf,e,c,bH]
   . simp(disch:=apply zq;omega) only[go_sem,simprocAttr,↓wB,xx,L90,S90,f90,h90,hq,x1,x2,ak,ae,hf,e,c,bH]
 . rw[if_neg e]at hr;have e2:(((art g.a k).f:Int) != (u:Int))=true:=by simp;omega
   rw[if_neg e,if_neg e,if_neg e,decide_eq_false e,show -(art g.a k).k=0-(art g.a k).k by omega]at c;simp only[iF,uR,Bool.not_false]at c;cases B
   . simp(disch:=apply zq;omega) only[go_sem,simprocAttr,↓wB,xx,L90,S90,f90,h90,hq,x1,x2,ak,ae,hf,e2,c,bH]
   . simp(disch:=apply zq;omega) only[go_sem,simprocAttr,↓wB,xx,L90,S90,f90,h90,hq,x1,x2,ak,ae,hf,e2,c,bH]
end
structure D9 where
 B:Bool
 out:List Int
 K:List Int
 V:List Int
 m:Nat
 j:Nat
structure GOk (g:Nt):Prop where
 ok:NOk g 1048576
 n:g.n<=100
 a:g.a.length<=4000
 c:∀i,i<g.a.length->(art g.a i).c<=1073741824
abbrev ad (g:Nt):Nat->List Nat:=adj g.a g.a.length
abbrev M9 (g:Nt)(out:List Int):Nat:=msr ((g.n:Int)*1048576) out
def pn (l:List (Int×Int)):List (Int×Nat):=l.map fun e=>(e.1,e.2.toNat)
theorem D7 {l l':List (Int×Int)}{a:Int}{t:Nat}(h:l.Perm ((a,(t:Int))::l'))(hn:∀e∈l',0<=e.2):(pn l).Perm ((a,t)::pn l')/\∀e∈l,0<=e.2:=by
 refine⟨?_,fun e he=> ?_⟩
 . have:=h.map fun e:Int×Int=>(e.1,e.2.toNat)
   rw[wK]at this;exact this
 . rcases List.mem_cons.1 (h.mem_iff.1 he)with rfl|h1
   . exact Int.natCast_nonneg t
   . exact hn e h1
structure I9 (g:Nt)(fl pr:List Int)(s u:Nat)(di:Int)(C:Nat)(a:D9):Prop where
 dj:DJ g fl pr s (ad g) u a.j a.out (pn (prs a.K a.V a.m))
 nn:∀e∈prs a.K a.V a.m,0<=e.2
 du:nth a.out u=di
 kl:a.m<=a.K.length
 vl:a.V.length=a.K.length
 mm:a.m+M9 g a.out<=C
theorem pl {g:Nt}{fl pr:List Int}{s to:Nat}{out:List Int}(hg:GOk g)(hr:RN g fl pr)(hpb:PB g 1048576 pr s to)(hs:s<g.n){v:Nat}(hv:v<g.n)(hp:∀v,v<g.n->nth out v=far\/∃P,Pa g fl pr s out v P (nth out v)):0<=nth out v/\nth out v<=4611686018427387904:=by
 rcases hp v hv with e|⟨P,hP⟩
 . rw[e];unfold far;decide
 . have h1:=(hP.le hr).1;have h2:=hP.bd hg.ok (by decide) hs hpb;have h3:=(hpb.b v hv).1;have h4:=hg.n;have:(g.n:Int)*1048576<=100*1048576:=wN (by omega) (by decide);omega
theorem Eb {g:Nt}{u:Nat}(hu:u<g.n):(Ce g)[u]? =some (lV .sc (us (ad g u))):=by unfold Ce;rw[List.getElem?_map,gw hu];rfl
theorem zm (g:Nt)(u:Nat):(ad g u).length<=g.a.length:=oX g.a u g.a.length
section
variable {d :Nat} {g:Nt} {b:Bool} {fl pr:List Int} {s to u C:Nat} {di:Int} (hC:C<=11000000000) (hg:GOk g) (hfb:FB g fl) (hr:RN g fl pr) (hpb:PB g 1048576 pr s to) (hs:s<g.n) (hu:u<g.n)
include hC hg hfb hr hpb hs hu
theorem UE {a:D9}(h:I9 g fl pr s u di C a)(hj:a.j<(ad g u).length):∃a',I9 g fl pr s u di C a'/\a'.j=a.j+1 /\
  aK K90 (evC gl (call gl tab (d+5)) L90 (S90 a.B g b yA4 fl pr a.out a.K a.V a.m di u (us (ad g u)) a.j))=some (S90 a'.B g b yA4 fl pr a'.out a'.K a'.V a'.m di u (us (ad g u)) a'.j):=by
 obtain⟨B,out,K,V,m,j⟩:=a;obtain⟨dj,nn,du,kl,vl,mm⟩:=h;simp only at dj nn du kl vl mm hj ⊢;have hje:(ad g u)[j]? =some (ad g u)[j]:=List.getElem?_eq_getElem hj;have hi:inc g u (ad g u)[j]:=(oY g u hu _).1 (List.getElem_mem hj);have hql:(us (ad g u)).length<=4000:=by rw[aj];exact Nat.le_trans (oX _ _ _) hg.a
 have hq:=dy hje;generalize (ad g u)[j]=i at *
 have hkb:=fun k hk=>(hg.ok.k k hk)
 by_cases hp:0<room g fl u i
 case neg =>refine⟨⟨B,out,K,V,m,j+1⟩,⟨EH dj hje (.inl (by omega)),nn,du,kl,vl,mm⟩,rfl,?_⟩;exact Rk hfb.l hg.a hq hi hfb hg.c hkb hql hp
 have hd:=pl hg hr hpb hs hu dj.p;rw[du]at hd;have ht:=jI hg.ok hi;have hcst:-1073741824<=cst g u i/\cst g u i<=1073741824:=by have:=hkb i hi.1;unfold cst;split<;>omega
 have hnK:(g.n:Int)*1048576<=100*1048576:=wN (by have:=hg.n;omega) (by decide);have hprb:∀v,v<g.n->0<=nth pr v/\nth pr v<=1099511627776:=fun v hv=>by have h1:=hpb.b v hv;have h2:=hpb.t;omega
 have e:cst g u i+nth pr u-nth pr (oth g u i)=red g pr u i:=rfl;by_cases hn:di+(cst g u i+nth pr u-nth pr (oth g u i))<nth out (oth g u i)
 case neg =>refine⟨⟨B,out,K,V,m,j+1⟩,⟨EH dj hje (.inr (by show nth out (oth g u i)<=nth out u+red g pr u i;rw[du];rw[e]at hn;omega)),nn,du,kl,vl,mm⟩,rfl,?_⟩;exact VG hfb.l hg.a hq hi hfb hg.c hkb hql hp (Ab hfb.l dj.l hpb.l hu ht hcst (hprb u hu) (hprb _ ht) hd (by omega) (Int.not_lt.1 hn))
 have hn':nth out u+red g pr u i<nth out (oth g u i):=by rw[du];rw[e]at hn;exact hn
 have hbn:0<=di+red g pr u i/\di+red g pr u i<=(g.n:Int)*1048576:=by have:=(Db hg.ok hr hpb (by decide) (by unfold far;omega) hs hu dj hje hi hp hn' (.refl _)).2;rw[du]at this;exact this
 have hne:=IQ hg.ok hi;have hms:=ye (B:=(g.n:Int)*1048576) (l:=out) (i:=oth g u i) (by rw[dj.l];exact ht) hbn.1 hbn.2 (by rw[e]at hn;exact hn);have hdu:nth (out.set (oth g u i) (di+red g pr u i)) u=di:=by rw[bZ (by rw[dj.l];exact ht),if_neg (fun e=>hne e.symm)];exact du
 have h0:0<=di+(cst g u i+nth pr u-nth pr (oth g u i)):=by rw[e];exact hbn.1
 by_cases hfull:K.length=m
 . obtain⟨K',V',e1,e2,e3,c⟩:=xN (gl:=gl) (n:=d+5) (b:=b) (sh:=yA4) (K:=K) (V:=V) (i:=i) (r:=room g fl u i) (bk:=bko g u i) hfb.l dj.l hpb.l hu ht hcst (hprb u hu) (hprb _ ht) hd (by omega) hn h0 hfull (by omega) (by omega);rw[e]at c e3;rw[<-du]at e3;obtain⟨e4,e5⟩:=D7 e3 nn;have dj':=(Db hg.ok hr hpb (by decide) (by unfold far;omega) hs hu dj hje hi hp hn' e4).1;rw[du]at dj';refine⟨⟨true,_,K',V',m+1,j+1⟩,⟨dj',e5,hdu,by simp only;omega,by simp only;omega,by simp only;unfold M9 at *;omega⟩,rfl,?_⟩;exact U6 hfb.l hg.a hq hi hfb hg.c hkb hql hp c
 . obtain⟨K',V',e1,e2,e3,c⟩:=Ac (gl:=gl) (n:=d+5) (b:=b) (sh:=yA4) (K:=K) (V:=V) (i:=i) (r:=room g fl u i) (bk:=bko g u i) hfb.l dj.l hpb.l hu ht hcst (hprb u hu) (hprb _ ht) hd (by omega) hn h0 rfl vl (show m+1<=K.length by omega) (by omega);rw[e]at c e3;rw[<-du]at e3;obtain⟨e4,e5⟩:=D7 e3 nn;have dj':=(Db hg.ok hr hpb (by decide) (by unfold far;omega) hs hu dj hje hi hp hn' e4).1;rw[du]at dj';refine⟨⟨B,_,K',V',m+1,j+1⟩,⟨dj',e5,hdu,by simp only;omega,by simp only;omega,by simp only;unfold M9 at *;omega⟩,rfl,?_⟩;exact VG hfb.l hg.a hq hi hfb hg.c hkb hql hp c
def i90 (g:Nt)(b:Bool)(sh:Sh)(fl pr out K V:List Int)(m:Nat)(di:Int)(u:Nat):Hp:=iF g b sh fl pr out K V m di u++[(100013,.fix .sc (.ptr 100002 [])),(100014,.fix .sc (i64 (u:Int)))]
def r90 (B:Bool)(g:Nt)(b:Bool)(sh:Sh)(fl pr out K V:List Int)(m:Nat)(di:Int)(u:Nat):AV×Hp×List OB :=
 if B then(.tup [],uR g b sh fl pr out 20000 20001 m di u++[(100013,.fix .sc (.ptr 100002 [])),(100014,.fix .sc (i64 (u:Int)))],[.grow .sc (ns K),.grow .sc (ns V)])
 else(.tup [],i90 g b sh fl pr out K V m di u,[])
theorem RT {sh:Sh}(hsh:g.a=[]\/sh=yA4){out K V:List Int}{m:Nat}(dj:DJ g fl pr s (ad g) u 0 out (pn (prs K V m)))(nn:∀e∈prs K V m,0<=e.2)(du:nth out u=di)(kl:m<=K.length)(vl:V.length=K.length)(mm:m+M9 g out<=C) :
  ∃(B:Bool) (out' K' V':List Int) (m':Nat),DI g fl pr s out' (pn (prs K' V' m'))/\(∀e∈prs K' V' m',0<=e.2)/\m'<=K'.length/\V'.length=K'.length/\m'+M9 g out'<=C /\
   call gl tab (d+6) 113 [.yld 100000,.ptr 100013 [],.ptr 100014 []] (i90 g b sh fl pr out K V m di u)=some (r90 B g b sh fl pr out' K' V' m' di u):=by
 have hl:=Eb (g:=g) hu;rcases wD (ad g u).length with h0|h0
 . have e0:ad g u=[]:=List.length_eq_zero_iff.1 h0;have e1:lV .sc (us (ad g u))= .lst true .sc []:=by rw[e0];rfl
   rw[e1]at hl;refine⟨false,out,K,V,m,K8 (oY g) hu dj (show(ad g u).length<=0 by omega),nn,kl,vl,mm,?_⟩;rw[bf (fd:=lv) rfl];simp(disch:=apply zq;omega) only[go_sem,simprocAttr,↓wB,xx,lv,Ci,i90,iF,hl,kU];rw[aE (fun _=>⟨[.set 16 (i64 0),.set 15 (i64 0),.set 14 (.lst true .sc []),.set 2 (.ptr 100014 []),.set 1 (.ptr 100013 []),.set 0 (.yld 100000)],h90 false g b sh fl pr out K V m di u⟩) 0 (by unfold LF;omega)]
   . simp(disch:=apply zq;omega) only[go_sem,simprocAttr,↓wB,xx,h90,r90,i90,iF]
   . simp(disch:=apply zq;omega) only[go_sem,simprocAttr,↓wB,xx,h90]
   . intro i hi;omega
   . simp(disch:=apply zq;omega) only[go_sem,simprocAttr,↓wB,xx,h90]
 . have hne:g.a≠[]:=fun e=>by
    have:=zm g u;have h1:g.a.length=0:=by rw[e];rfl
    omega
   have hsh:=hsh.resolve_left hne;subst hsh;have e1:lV .sc (us (ad g u))= .lst false .sc (us (ad g u)):=by unfold lV;rw[fR,if_neg];rw[List.isEmpty_iff];intro e;rw[e]at h0;simp at h0
   rw[e1]at hl;obtain⟨a,⟨ha,hjl⟩,hfin,hiter⟩:=fF (f:=evC gl (call gl tab (d+5)) L90) (ks:=K90) (fun a:D9=>S90 a.B g b yA4 fl pr a.out a.K a.V a.m di u (us (ad g u)) a.j) (fun a=>I9 g fl pr s u di C a/\a.j<=(ad g u).length) (fun a=>a.j=(ad g u).length) (fun a=>(ad g u).length-a.j) (a0:=⟨false,out,K,V,m,0⟩)
    (by have:=zm g u;have:=hg.a;unfold LF;simp only;omega) ⟨⟨dj,nn,du,kl,vl,mm⟩,Nat.zero_le _⟩
    (fun a ⟨ha,hjl⟩=>by
      by_cases hj:a.j<(ad g u).length
      . obtain⟨a',h1,h2,h3⟩:=@UE gl d g b fl pr s to u C di hC hg hfb hr hpb hs hu a ha hj;exact .inr ⟨a',⟨h1,by omega⟩,by omega,h3⟩
      . refine .inl ⟨by omega,?_⟩;have e:a.j=(ad g u).length:=by omega
        obtain⟨B,out,K,V,m,j⟩:=a;simp only at e;subst e;cases B
        . simp(disch:=apply zq;omega) only[go_sem,simprocAttr,↓wB,xx,L90,S90,f90,h90,aj]
        . simp(disch:=apply zq;omega) only[go_sem,simprocAttr,↓wB,xx,L90,S90,f90,h90,aj])
   refine⟨a.B,a.out,a.K,a.V,a.m,K8 (oY g) hu ha.dj (show(ad g u).length<=a.j by omega),ha.nn,ha.kl,ha.vl,ha.mm,?_⟩;obtain⟨B,out',K',V',m',j'⟩:=a;simp only at hfin;subst hfin;simp only[L90,wq]at hiter;rw[bf (fd:=lv) rfl];simp(disch:=apply zq;omega) only[go_sem,simprocAttr,↓wB,xx,lv,Ci,i90,iF,hl,kU];rw[hiter]
   . cases B
     . simp(disch:=apply zq;omega) only[go_sem,simprocAttr,↓wB,xx,S90,f90,h90,aj,r90,i90,iF]
     . simp(disch:=apply zq;omega) only[go_sem,simprocAttr,↓wB,xx,S90,f90,h90,aj,r90,uR]
   . simp(disch:=apply zq;omega) only[go_sem,simprocAttr,↓wB,xx,S90,f90,h90]
end
end Go.Proofs.S51
