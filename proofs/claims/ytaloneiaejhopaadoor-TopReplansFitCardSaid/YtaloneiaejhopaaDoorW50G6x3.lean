/-
  Flows: reduced costs, what a flow costs. No condition.
-/
import Derived.Test.YtaloneiaejhopaaDoorW50b
set_option linter.all false
open Nat renaming exists_eq_add_of_le'->wB
open Int renaming add_sub_cancel->wC,mul_nonneg->wD,mul_le_mul->wE
open List renaming getD_eq_getElem?_getD->wF,getElem?_set->wG
namespace Go.Proofs.S50
open Go Go.Ev Go.Proofs Go.Fl
variable {gl :Gl} {n:Nat}
def outV (g:Nt):List AV:=(adjs g.a g.a.length g.n).map (lV .sc)
theorem zi7 (g:Nt):(outV g).length=g.n:=by simp[outV,zbl]
abbrev nwL (g:Nt)(b:Bool)(sh:Sh)(f p:Bool)(fl pr:List Int):AV:=.cp sNw (.agg [.agg [i64 (g.n:Int),.lst b sh (rs g.a)],.lst f .sc (ns fl),.lst false .sc (outV g),.lst p .sc (ns pr)])
abbrev wV (i t:Nat)(r c:Int)(bk:Bool):AV:=.agg [i64 (i:Int),i64 (t:Int),i64 r,i64 c,.bool bk]
theorem zfr (h:1<=n){g:Nt}{b:Bool}{sh:Sh}{f p:Bool}{fl pr:List Int}{u i t:Nat}{r c:Int}{bk:Bool}(hu:u<pr.length)(ht:t<pr.length)
  (hc:-1073741824<=c/\c<=1073741824) (h1:0<=nth pr u/\nth pr u<=1099511627776) (h2:0<=nth pr t/\nth pr t<=1099511627776) :
  call gl tab n 71 [nwL g b sh f p fl pr,i64 (u:Int),wV i t r c bk] []=some (i64 (c+nth pr u-nth pr t),[],[]):=by
 obtain⟨d,rfl⟩:=wB h
 have x1:=zb2 hu
 have x2:=zb2 ht
 rw[zai (fd:=fd71) rfl]
 simp(disch:=apply zq;omega) only[go_sem,simprocAttr,↓Nat.reduceEqDiff,xx,fd71,m71,zab,x1,x2]
def tot (a:List Ar)(fl:List Int):Nat->Int
 | 0=>0
 | i+1=>tot a fl i+(art a i).k*nth fl i
def L72 :MC:=match m72 with| .seq _ (.seq _ (.seq (.seq _ (.block _ (.loop _ b))) _))=>b|_=>.skip
section
variable {d :Nat} {g:Nt} {b f p:Bool} {sh:Sh} {fl pr:List Int}
def S72 (g:Nt)(b:Bool)(sh:Sh)(f p:Bool)(fl pr:List Int)(i:Nat):St:=⟨[.set 12 (i64 (i:Int)),.set 11 (i64 (g.a.length:Int)),.set 10 (.lst b sh (rs g.a)),.set 3 (i64 (tot g.a fl i)),.set 0 (nwL g b sh f p fl pr)],[]⟩
theorem qf5 (hsh:g.a=[]\/sh=yA4)(hl:fl.length=g.a.length)(hM:g.a.length<=4000)(hk:∀i,i<g.a.length->0<=(art g.a i).k/\(art g.a i).k<=1048576)(hf:∀i,i<g.a.length->0<=nth fl i/\nth fl i<=1073741824){i:Nat}(hi:i<g.a.length)
  (ht:0<=tot g.a fl i/\tot g.a fl i<=(i:Int)*1125899906842624) :
  zaz [.slot 0,.slot 3,.slot 10,.slot 11,.slot 12] (evC gl (call gl tab d) L72 (S72 g b sh f p fl pr i))=some (S72 g b sh f p fl pr (i+1))/\0<=tot g.a fl (i+1)/\tot g.a fl (i+1)<=((i+1:Nat):Int)*1125899906842624:=by
 have hsh:sh=yA4:=hsh.resolve_left (fun e=>by rw[e]at hi;simp at hi)
 subst hsh
 have x1:=zix hi
 have x2:=zb2 (show i<fl.length by omega)
 have h1:=hk i hi
 have h2:=hf i hi
 have h3:0<=(art g.a i).k*nth fl i:=wD h1.1 h2.1
 have h4:(art g.a i).k*nth fl i<=1048576*1073741824:=wE h1.2 h2.2 h2.1 (by omega)
 have e:tot g.a fl (i+1)=tot g.a fl i+(art g.a i).k*nth fl i:=rfl
 have e2:((i+1:Nat):Int)*1125899906842624=(i:Int)*1125899906842624+1125899906842624:=by omega
 have hs:S72 g b yA4 f p fl pr (i+1)=⟨[.set 12 (i64 ((i:Int)+1)),.set 11 (i64 (g.a.length:Int)),.set 10 (.lst b yA4 (rs g.a)),.set 3 (i64 (tot g.a fl i+(art g.a i).k*nth fl i)),.set 0 (nwL g b yA4 f p fl pr)],[]⟩:=rfl
 refine⟨?_,by rw[e];omega,by rw[e,e2];omega⟩
 rw[hs]
 have hb:(i:Int)<=4000:=by omega
 have w1:IntKind.wrap .i64 ((art g.a i).k*nth fl i)=(art g.a i).k*nth fl i:=w64 (by omega)
 have w2:IntKind.wrap .i64 (tot g.a fl i+(art g.a i).k*nth fl i)=tot g.a fl i+(art g.a i).k*nth fl i:=w64 (by omega)
 simp(disch:=apply zq;omega) only[go_sem,simprocAttr,↓Nat.reduceEqDiff,xx,L72,m72,S72,zah,zab,hl,x1,x2,w1,w2]
theorem qax (hk:∀i,i<g.a.length->0<=(art g.a i).k/\(art g.a i).k<=1048576)(hf:∀i,i<g.a.length->0<=nth fl i/\nth fl i<=1073741824):∀i,i<=g.a.length->0<=tot g.a fl i/\tot g.a fl i<=(i:Int)*1125899906842624
 | 0,_=>⟨Int.le_refl _,by simp[tot]⟩
 | i+1,hi=>by
   have ih:=qax hk hf i (by omega)
   have h1:=hk i (by omega)
   have h2:=hf i (by omega)
   have h3:0<=(art g.a i).k*nth fl i:=wD h1.1 h2.1
   have h4:(art g.a i).k*nth fl i<=1048576*1073741824:=wE h1.2 h2.2 h2.1 (by omega)
   have e2:((i+1:Nat):Int)*1125899906842624=(i:Int)*1125899906842624+1125899906842624:=by omega
   rw[tot,e2];omega
theorem zvs (h:1<=n)(hsh:g.a=[]\/sh=yA4)(hl:fl.length=g.a.length)(hM:g.a.length<=4000)(hk:∀i,i<g.a.length->0<=(art g.a i).k/\(art g.a i).k<=1048576)(hf:∀i,i<g.a.length->0<=nth fl i/\nth fl i<=1073741824) :
  call gl tab n 72 [nwL g b sh f p fl pr] []=some (i64 (tot g.a fl g.a.length),[],[]):=by
 obtain⟨d,rfl⟩:=wB h
 have hs:=fun i hi=>(@qf5 gl d g b f p sh fl pr hsh hl hM hk hf i hi (qax hk hf i (by omega))).1
 simp only[L72,m72]at hs
 rw[zai (fd:=fd72) rfl]
 simp(disch:=apply zq;omega) only[go_sem,simprocAttr,↓Nat.reduceEqDiff,xx,fd72,m72,zah]
 rw[zak (S72 g b sh f p fl pr) g.a.length (by unfold LF;omega)]
 . simp(disch:=apply zq;omega) only[go_sem,simprocAttr,↓Nat.reduceEqDiff,xx,S72]
 . simp(disch:=apply zq;omega) only[go_sem,simprocAttr,↓Nat.reduceEqDiff,xx,S72,tot]
 . exact hs
 . simp(disch:=apply zq;omega) only[go_sem,simprocAttr,↓Nat.reduceEqDiff,xx,S72]
end
end Go.Proofs.S50
namespace Go.Proofs.S50
open Go Go.Ev Go.Proofs Go.Fl
variable {gl :Gl} {n:Nat}
abbrev sHp :Sh:=.st [.sc,.sc]
def swp (l:List Int)(i k:Nat):List Int:=(l.set i (nth l k)).set k (nth l i)
theorem zer (l:List Int)(i k:Nat):(swp l i k).length=l.length:=by simp[swp]
theorem qho (l:List Int)(i k:Nat):ns (swp l i k)=((ns l).set i (i64 (nth l k))).set k (i64 (nth l i)):=by rw[swp,zh4,zh4]
theorem ztv (h:1<=n){K V:List Int}{m i k:Nat}(hi:i<m)(hk:k<m)(h1:m<=K.length)(h2:m<=V.length) :
  call gl tab n 89 [.ptr 100000 [],i64 (i:Int),i64 (k:Int)] [(100000,.fix sHp (.aggR [.sl 100001 [] 0 m,.sl 100002 [] 0 m])),(100001,.grow .sc (ns K)),(100002,.grow .sc (ns V))] =
   some (.tup [],[(100000,.fix sHp (.aggR [.sl 100001 [] 0 m,.sl 100002 [] 0 m])),(100001,.grow .sc (ns (swp K i k))),(100002,.grow .sc (ns (swp V i k)))],[]):=by
 obtain⟨d,rfl⟩:=wB h
 have k1:=zb2 (show i<K.length by omega)
 have k2:=zb2 (show k<K.length by omega)
 have v1:=zb2 (show i<V.length by omega)
 have v2:=zb2 (show k<V.length by omega)
 have k3:((ns K).set i (i64 (nth K k)))[k]? =some (i64 (nth K k)):=by
  rw[wG];split
  . rename_i e;subst e;rw[if_pos (by rw[zab];omega)]
  . exact k2
 have v3:((ns V).set i (i64 (nth V k)))[k]? =some (i64 (nth V k)):=by
  rw[wG];split
  . rename_i e;subst e;rw[if_pos (by rw[zab];omega)]
  . exact v2
 rw[zbo (fd:=fd89) rfl]
 simp(disch:=apply zq;omega) only[go_sem,simprocAttr,↓Nat.reduceEqDiff,xx,fd89,m89,zab,k1,k2,k3,v1,v2,v3,List.length_set,qho]
theorem zpd {l:List Int}{i k:Nat}(hi:i<l.length)(hk:k<l.length)(j:Nat):nth (swp l i k) j=if j=k then nth l i else if j=i then nth l k else nth l j:=by
 rw[swp,zcb (by simp;exact hk),zcb hi]
def prs (K V:List Int):Nat->List (Int×Int)
 | 0=>[]
 | m+1=>(nth K m,nth V m)::prs K V m
theorem zi2 {K V K' V':List Int}:∀{m:Nat},(∀j,j<m->nth K' j=nth K j/\nth V' j=nth V j)->prs K' V' m=prs K V m
 | 0,_=>rfl
 | m+1,h=>by rw[prs,prs,(h m (by omega)).1,(h m (by omega)).2,zi2 fun j hj=>h j (by omega)]
theorem zpy {K V:List Int}{i:Nat}(hk:i<K.length)(hv:i<V.length)(a b:Int):∀{m:Nat},i<m->((nth K i,nth V i)::prs (K.set i a) (V.set i b) m).Perm ((a,b)::prs K V m)
 | 0,h=>by omega
 | m+1,h=>by
   rw[prs,prs]
   by_cases e:i=m
   . subst e
     rw[zcb hk,zcb hv,if_pos rfl,if_pos rfl,zi2 (K:=K) (V:=V) fun j hj=>by rw[zcb hk,zcb hv,if_neg (by omega),if_neg (by omega)];exact⟨rfl,rfl⟩]
     exact .swap _ _ _
   . rw[zcb hk,zcb hv,if_neg (show ¬m=i from fun h=>e h.symm),if_neg (show ¬m=i from fun h=>e h.symm)]
     have ih:=zpy hk hv a b (m:=m) (by omega)
     exact(List.Perm.swap _ _ _).trans ((ih.cons _).trans (.swap _ _ _))
theorem zuf {K V:List Int}{m i k:Nat}(hi:i<m)(hk:k<m)(h1:m<=K.length)(h2:m<=V.length):(prs (swp K i k) (swp V i k) m).Perm (prs K V m):=by
 by_cases e:i=k
 . subst e
   rw[zi2 fun j hj=> ?_]
   rw[zpd (by omega) (by omega),zpd (by omega) (by omega)]
   split
   . rename_i e;rw[e];exact⟨rfl,rfl⟩
   . exact⟨rfl,rfl⟩
 . have p1:=zpy (K:=K) (V:=V) (i:=i) (by omega) (by omega) (nth K k) (nth V k) hi
   have p2:=zpy (K:=K.set i (nth K k)) (V:=V.set i (nth V k)) (i:=k) (by simp;omega) (by simp;omega) (nth K i) (nth V i) hk
   rw[zcb (by omega),zcb (by omega),if_neg (show ¬k=i from fun h=>e h.symm),if_neg (show ¬k=i from fun h=>e h.symm)]at p2
   have p3:=(p2.trans p1)
   exact p3.cons_inv
theorem quo2 {i:Nat}(h:0<i)(hi:i<=30000000000):zar .quo .i64 ((i:Int)-1) 2=some (i64 (((i-1)/2:Nat):Int)):=by
 have q:Int.tdiv ((i:Int)-1) 2=((i-1)/2:Nat):=by
  rw[Int.tdiv_eq_ediv_of_nonneg (by omega)];omega
 unfold zar
 simp[q]
 rw[w64 (by omega)]
def L68 :MC:=match m68 with| .seq _ (.seq _ (.block _ (.loop _ b)))=>b|_=>.skip
structure PS where
 K:List Int
 V:List Int
 i:Nat
def h68 (B:Bool)(m:Nat)(K V:List Int):Hp :=
 if B then [(100002,.dead),(100001,.dead),(100000,.fix sHp (.aggR [.sl 8000 [] 0 m,.sl 8001 [] 0 m])),(8001,.grow .sc (ns V)),(8000,.grow .sc (ns K))]
 else [(100002,.grow .sc (ns V)),(100001,.grow .sc (ns K)),(100000,.fix sHp (.aggR [.sl 100001 [] 0 m,.sl 100002 [] 0 m]))]
def S68 (B:Bool)(m:Nat)(a:PS):St:=⟨[.set 6 (i64 (a.i:Int)),.set 0 (.ptr 100000 [])],h68 B m a.K a.V⟩
def n68 (a:PS):PS:=⟨swp a.K a.i ((a.i-1)/2),swp a.V a.i ((a.i-1)/2),(a.i-1)/2⟩
def g68 (a:PS):Bool:=decide (0<a.i/\nth a.K a.i<nth a.K ((a.i-1)/2))
abbrev K68 :List Kp:=[.slot 0,.slot 6,.mv 100000 [0] 8000,.mv 100000 [1] 8001]
theorem qf7 {d:Nat}{B:Bool}{m:Nat}{a:PS}(h1:m<=a.K.length)(h2:m<=a.V.length)(hi:a.i<m)(hm:m<=30000000000)(hg:g68 a=true) :
  zaz K68 (evC gl (call gl tab (d+1)) L68 (S68 B m a))=some (S68 B m (n68 a)):=by
 obtain⟨K,V,i⟩:=a
 simp only[g68,decide_eq_true_eq]at hg h1 h2 hi
 obtain⟨g1,g2⟩:=hg
 have q1:=quo2 (show 0<i by omega) (show i<=30000000000 by omega)
 have x1:=zb2 (show i<K.length by omega)
 have x2:=zb2 (show(i-1)/2<K.length by omega)
 have hj:(i-1)/2<m:=by omega
 have c:=@ztv gl (d+1) (by omega) K V m i ((i-1)/2) hi hj (by omega) (by omega)
 simp only[n68]
 generalize (i-1)/2=j at *
 cases B
 . simp(disch:=apply zq;omega) only[go_sem,simprocAttr,↓Nat.reduceEqDiff,xx,L68,m68,S68,h68,zab,x1,x2,q1,c]
 . simp(disch:=apply zq;omega) only[go_sem,simprocAttr,↓Nat.reduceEqDiff,xx,L68,m68,S68,h68,zab,x1,x2,q1,c]
theorem qi8 {d:Nat}{B:Bool}{m:Nat}{a:PS}(h1:m<=a.K.length)(hi:a.i<m)(hm:m<=30000000000)(hg:g68 a=false) :
  ∃fr,evC gl (call gl tab (d+1)) L68 (S68 B m a)=some (.exit 0,⟨fr,h68 B m a.K a.V⟩):=by
 obtain⟨K,V,i⟩:=a
 simp only[g68,decide_eq_false_iff_not]at hg h1 hi
 have x1:=zb2 (show i<K.length by omega)
 rcases Nat.eq_zero_or_pos i with h0|h0
 . subst h0
   cases B
   . exact⟨_,by simp(disch:=apply zq;omega) only[go_sem,simprocAttr,↓Nat.reduceEqDiff,xx,L68,m68,S68,h68,zab,x1];rfl⟩
   . exact⟨_,by simp(disch:=apply zq;omega) only[go_sem,simprocAttr,↓Nat.reduceEqDiff,xx,L68,m68,S68,h68,zab,x1];rfl⟩
 . have hg:¬nth K i<nth K ((i-1)/2):=fun h=>hg ⟨h0,h⟩
   have q1:=quo2 h0 (show i<=30000000000 by omega)
   have x2:=zb2 (show(i-1)/2<K.length by omega)
   have hj:(i-1)/2<m:=by omega
   generalize (i-1)/2=j at *
   cases B
   . exact⟨_,by simp(disch:=apply zq;omega) only[go_sem,simprocAttr,↓Nat.reduceEqDiff,xx,L68,m68,S68,h68,zab,x1,x2,q1];rfl⟩
   . exact⟨_,by simp(disch:=apply zq;omega) only[go_sem,simprocAttr,↓Nat.reduceEqDiff,xx,L68,m68,S68,h68,zab,x1,x2,q1];rfl⟩
theorem qks (h:2<=n)(key:Int)(v:Nat):call gl tab n 68 [.ptr 100000 [],i64 key,i64 (v:Int)] [(100000,.fix sHp (.agg [.lst true .sc [],.lst true .sc []]))] =
  some (.tup [],[(100000,.fix sHp (.aggR [.sl 20000 [] 0 1,.sl 20001 [] 0 1]))],[.grow .sc (ns [key]),.grow .sc (ns [(v:Int)])]):=by
 obtain⟨d,rfl⟩:=wB h
 have l1:1<=LIM:=by unfold LIM;omega
 rw[zbo (fd:=fd68) rfl]
 simp(disch:=apply zq;omega) only[go_sem,simprocAttr,↓Nat.reduceEqDiff,xx,fd68,m68,l1]
 rw[zak (fun _=>⟨[.set 6 (i64 0),.set 0 (.ptr 100000 [])],[(100000,.fix sHp (.aggR [.sl 8000 [] 0 1,.sl 8001 [] 0 1])),(8001,.grow .sc [i64 (v:Int)]),(8000,.grow .sc [i64 key])]⟩) 0 (by unfold LF;omega)]
 . simp(disch:=apply zq;omega) only[go_sem,simprocAttr,↓Nat.reduceEqDiff,xx,ns,List.map_cons,List.map_nil]
 . simp(disch:=apply zq;omega) only[go_sem,simprocAttr,↓Nat.reduceEqDiff,xx]
 . intro i hi;omega
 . simp(disch:=apply zq;omega) only[go_sem,simprocAttr,↓Nat.reduceEqDiff,xx]
theorem z94 {d:Nat}{B:Bool}{m L:Nat}{K0 V0:List Int}(n1:K0.length=L)(n2:V0.length=L)(hL:m+1<=L)(hm:m<=20000000000) :
  ∃K V:List Int,K.length=L/\V.length=L/\(prs K V (m+1)).Perm (prs K0 V0 (m+1))/\∃fr,∀st,zcr K68 st=some (S68 B (m+1) ⟨K0,V0,m⟩)->iter (evC gl (call gl tab (d+1)) L68) K68 LF st=some (.exit 0,⟨fr,h68 B (m+1) K V⟩):=by
 obtain⟨a,⟨i1,i2,i3,i4⟩,ag,hiter⟩:=zmn (f:=evC gl (call gl tab (d+1)) L68) (ks:=K68) (S68 B (m+1)) (fun a=>a.K.length=L/\a.V.length=L/\a.i<m+1/\(prs a.K a.V (m+1)).Perm (prs K0 V0 (m+1))) (fun a=>a.i) n68 g68 (a0:=⟨K0,V0,m⟩) (by show m<LF;unfold LF;omega) ⟨n1,n2,by show m<m+1;omega,.refl _⟩
  (fun a ⟨i1,i2,i3,i4⟩ hg=>by
    have hg':=hg
    simp only[g68,decide_eq_true_eq]at hg'
    refine⟨qf7 (by omega) (by omega) i3 (by omega) hg,⟨by simp only[n68,zer];exact i1,by simp only[n68,zer];exact i2,by simp only[n68];omega,?_⟩,by simp only[n68];omega⟩
    exact(zuf i3 (by omega) (by omega) (by omega)).trans i4)
  (fun a ⟨i1,i2,i3,i4⟩ hg=>by
    obtain⟨fr,e⟩:=@qi8 gl d B (m+1) a (by omega) i3 (by omega) hg
    rw[e];rfl)
 obtain⟨fr,he⟩:=@qi8 gl d B (m+1) a (by omega) i3 (by omega) ag
 exact⟨a.K,a.V,i1,i2,i4,fr,fun st h=>by rw[hiter st h,he]⟩
theorem z1g {K V:List Int}{m:Nat}{key:Int}{v:Nat}{K0 V0:List Int}(k1:nth K0 m=key)(v1:nth V0 m=v)(k2:∀j,j<m->nth K0 j=nth K j)(v2:∀j,j<m->nth V0 j=nth V j):prs K0 V0 (m+1)=(key,(v:Int))::prs K V m:=by
 rw[prs,k1,v1,zi2 fun j hj=>⟨k2 j hj,v2 j hj⟩]
theorem zp3 {L:List Int}{x:Int}{m:Nat}(h:L.length=m):nth (L++[x]) m=x/\∀j,j<m->nth (L++[x]) j=nth L j:=by
 refine⟨by unfold nth;rw[wF,List.getElem?_append_right (by omega),h];simp,fun j hj=> ?_⟩
 unfold nth
 rw[wF,List.getElem?_append_left (by omega),wF]
theorem z6z (h:2<=n){K V:List Int}{m:Nat}(key:Int)(v:Nat)(h1:K.length=m)(h2:V.length=m)(hm:m<=20000000000):∃K' V':List Int,K'.length=m+1/\V'.length=m+1/\(prs K' V' (m+1)).Perm ((key,(v:Int))::prs K V m) /\
  call gl tab n 68 [.ptr 100000 [],i64 key,i64 (v:Int)] [(100000,.fix sHp (.aggR [.sl 100001 [] 0 m,.sl 100002 [] 0 m])),(100001,.grow .sc (ns K)),(100002,.grow .sc (ns V))] =
  some (.tup [],[(100000,.fix sHp (.aggR [.sl 20000 [] 0 (m+1),.sl 20001 [] 0 (m+1)])),(100001,.dead),(100002,.dead)],[.grow .sc (ns K'),.grow .sc (ns V')]):=by
 obtain⟨d,rfl⟩:=wB h
 have l1:m+1<=LIM:=by unfold LIM;omega
 have t1:=(z9y K key).symm
 have t2:=(z9y V (v:Int)).symm
 have n1:(K++[key]).length=m+1:=by simp;omega
 have n2:(V++[(v:Int)]).length=m+1:=by simp;omega
 have p0:=z1g (zp3 (x:=key) h1).1 (zp3 (x:=(v:Int)) h2).1 (zp3 (x:=key) h1).2 (zp3 (x:=(v:Int)) h2).2
 generalize K++[key]=K0 at *
 generalize V++[(v:Int)]=V0 at *
 obtain⟨K',V',i1,i2,i3,fr,hiter⟩:=@z94 gl d true m (m+1) K0 V0 n1 n2 (Nat.le_refl _) hm
 refine⟨K',V',i1,i2,by rw[<-p0];exact i3,?_⟩
 simp only[L68,m68]at hiter
 rw[zbo (fd:=fd68) rfl]
 simp(disch:=apply zq;omega) only[go_sem,simprocAttr,↓Nat.reduceEqDiff,xx,fd68,m68,l1,zab,h1,h2,t1,t2,wC]
 rw[hiter]
 . simp(disch:=apply zq;omega) only[go_sem,simprocAttr,↓Nat.reduceEqDiff,xx,h68]
 . simp(disch:=apply zq;omega) only[go_sem,simprocAttr,↓Nat.reduceEqDiff,xx,S68,h68,wC]
theorem qcn (h:2<=n){K V:List Int}{m L:Nat}(key:Int)(v:Nat)(h1:K.length=L)(h2:V.length=L)(hL:m+1<=L)(hm:m<=20000000000):∃K' V':List Int,K'.length=L/\V'.length=L/\(prs K' V' (m+1)).Perm ((key,(v:Int))::prs K V m) /\
  call gl tab n 68 [.ptr 100000 [],i64 key,i64 (v:Int)] [(100000,.fix sHp (.aggR [.sl 100001 [] 0 m,.sl 100002 [] 0 m])),(100001,.grow .sc (ns K)),(100002,.grow .sc (ns V))] =
  some (.tup [],[(100000,.fix sHp (.aggR [.sl 100001 [] 0 (m+1),.sl 100002 [] 0 (m+1)])),(100001,.grow .sc (ns K')),(100002,.grow .sc (ns V'))],[]):=by
 obtain⟨d,rfl⟩:=wB h
 have l1:m+1<=LIM:=by unfold LIM;omega
 have e1:¬m=L:=by omega
 have tk:∀(L:List Int) (x:Int),m+1<=L.length->(ns L).take m++[i64 x]++(ns L).drop (m+1)=ns (L.set m x):=fun L x hL=>by
  rw[zh4,List.set_eq_take_append_cons_drop,if_pos (by rw[zab];omega)];simp
 have t1:=tk K key (by omega)
 have t2:=tk V v (by omega)
 have n1:(K.set m key).length=L:=by simp;omega
 have n2:(V.set m (v:Int)).length=L:=by simp;omega
 have p0:prs (K.set m key) (V.set m (v:Int)) (m+1)=(key,(v:Int))::prs K V m:=z1g (by rw[zcb (by omega),if_pos rfl]) (by rw[zcb (by omega),if_pos rfl]) (fun j hj=>by rw[zcb (by omega),if_neg (by omega)]) (fun j hj=>by rw[zcb (by omega),if_neg (by omega)])
 generalize K.set m key=K0 at *
 generalize V.set m (v:Int)=V0 at *
 obtain⟨K',V',i1,i2,i3,fr,hiter⟩:=@z94 gl d false m L K0 V0 n1 n2 hL hm
 refine⟨K',V',i1,i2,by rw[<-p0];exact i3,?_⟩
 simp only[L68,m68]at hiter
 rw[zbo (fd:=fd68) rfl]
 simp(disch:=apply zq;omega) only[go_sem,simprocAttr,↓Nat.reduceEqDiff,xx,fd68,m68,l1,zab,h1,h2,t1,t2,e1,hL,false_and,decide_false,wC]
 rw[hiter]
 . simp(disch:=apply zq;omega) only[go_sem,simprocAttr,↓Nat.reduceEqDiff,xx,h68]
 . simp(disch:=apply zq;omega) only[go_sem,simprocAttr,↓Nat.reduceEqDiff,xx,S68,h68,wC]
end Go.Proofs.S50
