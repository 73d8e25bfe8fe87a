/-
  Flows: distances. No condition.
-/
import Derived.Test.YtaloneiaejhopaaDoorW50G7x3
set_option linter.all false
open Nat renaming exists_eq_add_of_le'->wB
open List renaming getElem?_eq_some_iff->wC
namespace Go.Proofs.S50
open Go Go.Ev Go.Proofs Go.Fl
variable {gl :Gl} {n:Nat}
abbrev nwV (g:Nt)(b:Bool)(sh:Sh)(kf kp:Nat):AV:=.aggR [.agg [i64 (g.n:Int),.lst b sh (rs g.a)],.sl kf [] 0 g.a.length,.lst false .sc (outV g),.sl kp [] 0 g.n]
def L49 :MC:=match m49 with| .seq _ (.seq _ (.seq _ (.seq _ (.seq _ (.seq (.block _ (.loop _ b)) _)))))=>b|_=>.skip
abbrev K49 :List Kp:=[.slot 2,.slot 5,.slot 6,.key 2,.key 5,.key 6,.key 17,.key 22,.mv 22 [0] 6220,.mv 22 [1] 6221]
def S49 (g:Nt)(b:Bool)(sh:Sh)(fl pr out K V:List Int)(m:Nat):St :=
 ⟨[.set 6 (.ptr 6 []),.set 5 (.ptr 5 []),.set 2 (.ptr 2 [])],
   [(100002,.grow .sc (ns pr)),(100001,.grow .sc (ns fl)),(100000,.fix sNw (nwV g b sh 100001 100002)),(6221,.grow .sc (ns V)),(6220,.grow .sc (ns K)),(22,.fix sHp (.aggR [.sl 6220 [] 0 m,.sl 6221 [] 0 m])),(17,.grow .sc (ns out)),(6,.fix .sc (.ptr 22 [])),(5,.fix .sc (.sl 17 [] 0 g.n)),(2,.fix .sc (.ptr 100000 []))]⟩
theorem qbr {d:Nat}{g:Nt}{b:Bool}{sh:Sh}{fl pr out K V:List Int}{m u:Nat}{di:Int}(ho:out.length=g.n){K' V':List Int}(hu:u<g.n)(hd:nth out u<di)
  (c69:call gl tab (d+3) 69 [.ptr 100000 []] [(100000,.fix sHp (.aggR [.sl 100001 [] 0 (m+1),.sl 100002 [] 0 (m+1)])),(100001,.grow .sc (ns K)),(100002,.grow .sc (ns V))] =
  some (.tup [i64 di,i64 (u:Int)],[(100000,.fix sHp (.aggR [.sl 100001 [] 0 m,.sl 100002 [] 0 m])),(100001,.grow .sc (ns K')),(100002,.grow .sc (ns V'))],[])) :
  zaz K49 (evC gl (call gl tab (d+3)) L49 (S49 g b sh fl pr out K V (m+1)))=some (S49 g b sh fl pr out K' V' m):=by
 have x1:=zb2 (show u<out.length by omega)
 simp(disch:=apply zq;omega) only[go_sem,simprocAttr,↓Nat.reduceEqDiff,xx,L49,m49,S49,c69,x1,zab,ho]
abbrev nwH (g:Nt)(b:Bool)(sh:Sh)(fl pr:List Int):Hp:=[(100000,.fix sNw (nwV g b sh 100001 100002)),(100001,.grow .sc (ns fl)),(100002,.grow .sc (ns pr))]
theorem zz6 (h:1<=n){g:Nt}{b:Bool}{sh:Sh}{fl pr:List Int}{u:Nat}:call gl tab n 70 [.ptr 100000 [],i64 (u:Int)] (nwH g b sh fl pr)=some (.fn 90 [.ptr 20000 [],.ptr 20001 []],nwH g b sh fl pr,[.fix .sc (.ptr 100000 []),.fix .sc (i64 (u:Int))]):=by
 obtain⟨d,rfl⟩:=wB h
 rw[zbo (fd:=fd70) rfl]
 simp(disch:=apply zq;omega) only[go_sem,simprocAttr,↓Nat.reduceEqDiff,xx,fd70,m70]
def i490 (g:Nt)(b:Bool)(sh:Sh)(fl pr out K V:List Int)(m:Nat)(di:Int)(u:Nat):Hp :=
 [(100000,.lp 490 [.ptr 100001 [],.ptr 100005 [],.ptr 100007 [],.ptr 100011 [],.ptr 100012 []] .ready),(100001,.fix .sc (.ptr 100002 [])),(100002,.fix sNw (nwV g b sh 100003 100004)),(100003,.grow .sc (ns fl)),(100004,.grow .sc (ns pr)),(100005,.fix .sc (.sl 100006 [] 0 g.n)),(100006,.grow .sc (ns out)),(100007,.fix .sc (.ptr 100008 [])),(100008,.fix sHp (.aggR [.sl 100009 [] 0 m,.sl 100010 [] 0 m])),(100009,.grow .sc (ns K)),(100010,.grow .sc (ns V)),(100011,.fix .sc (i64 di)),(100012,.fix .sc (i64 (u:Int)))]
def j490 (g:Nt)(b:Bool)(sh:Sh)(fl pr out:List Int)(k1 k2 m:Nat)(di:Int)(u:Nat):Hp :=
 [(100000,.lp 490 [.ptr 100001 [],.ptr 100005 [],.ptr 100007 [],.ptr 100011 [],.ptr 100012 []] .ready),(100001,.fix .sc (.ptr 100002 [])),(100002,.fix sNw (nwV g b sh 100003 100004)),(100003,.grow .sc (ns fl)),(100004,.grow .sc (ns pr)),(100005,.fix .sc (.sl 100006 [] 0 g.n)),(100006,.grow .sc (ns out)),(100007,.fix .sc (.ptr 100008 [])),(100008,.fix sHp (.aggR [.sl k1 [] 0 m,.sl k2 [] 0 m])),(100009,.dead),(100010,.dead),(100011,.fix .sc (i64 di)),(100012,.fix .sc (i64 (u:Int)))]
theorem zek {l:List Int}{k:Nat}(h:l.length=k):(ns l).take k=ns l:=List.take_of_length_le (by rw[zab];omega)
section
variable {g :Nt} {b:Bool} {sh:Sh} {fl pr out K V:List Int} {m u i t:Nat} {di r c:Int} {bk:Bool} (hf:fl.length=g.a.length) (ho:out.length=g.n) (hp:pr.length=g.n) (hu:u<g.n) (ht:t<g.n)
  (hc:-1073741824<=c/\c<=1073741824) (h1:0<=nth pr u/\nth pr u<=1099511627776) (h2:0<=nth pr t/\nth pr t<=1099511627776) (hd:0<=di/\di<=4611686018427387904)
include hf ho hp hu ht hc h1 h2 hd
theorem zt5 (h:2<=n)(hn:nth out t<=di+(c+nth pr u-nth pr t)) :
  call gl tab n 1000490 [wV i t r c bk] (i490 g b sh fl pr out K V m di u)=some (.bool true,i490 g b sh fl pr out K V m di u,[]):=by
 obtain⟨d,rfl⟩:=wB h
 have c71:=@zfr gl (d+1) (by omega) g b sh false false fl pr u i t r c bk (by omega) (by omega) hc h1 h2
 have x1:=zb2 (show t<out.length by omega)
 have t1:=zek hf
 have t2:=zek hp
 have hn:nth out t<=di+c+nth pr u-nth pr t:=by omega
 generalize hz:c+nth pr u-nth pr t=z at *
 have hz1:-1099511627776-1073741824<=z/\z<=1099511627776+1073741824:=by omega
 rw[zd4 (fd:=zky) rfl rfl]
 simp(disch:=apply zq;omega) only[go_sem,simprocAttr,↓Nat.reduceEqDiff,xx,zky,z19,z1z,i490,c71,x1,zab,ho,hf,hp,t1,t2]
theorem zrt (h:4<=n)(hn:di+(c+nth pr u-nth pr t)<nth out t)(h0:0<=di+(c+nth pr u-nth pr t))(hK:K.length=m)(hV:V.length=m)(hm:m<=20000000000):∃K' V':List Int,K'.length=m+1/\V'.length=m+1/\(prs K' V' (m+1)).Perm ((di+(c+nth pr u-nth pr t),(t:Int))::prs K V m) /\
  call gl tab n 1000490 [wV i t r c bk] (i490 g b sh fl pr out K V m di u)=some (.bool true,j490 g b sh fl pr (out.set t (di+(c+nth pr u-nth pr t))) 20000 20001 (m+1) di u,[.grow .sc (ns K'),.grow .sc (ns V')]):=by
 obtain⟨d,rfl⟩:=wB h
 have c71:=@zfr gl (d+3) (by omega) g b sh false false fl pr u i t r c bk (by omega) (by omega) hc h1 h2
 have x1:=zb2 (show t<out.length by omega)
 have t1:=zek hf
 have t2:=zek hp
 have hz1:-1099511627776-1073741824<=c+nth pr u-nth pr t/\c+nth pr u-nth pr t<=1099511627776+1073741824:=by omega
 generalize hz:c+nth pr u-nth pr t=z at *
 obtain⟨K',V',e1,e2,e3,c68⟩:=@z6z gl (d+3) (by omega) K V m (di+z) t hK hV hm
 refine⟨K',V',e1,e2,e3,?_⟩
 rw[zd4 (fd:=zky) rfl rfl]
 simp(disch:=apply zq;omega) only[go_sem,simprocAttr,↓Nat.reduceEqDiff,xx,zky,z19,z1z,i490,c71,x1,zab,ho,hf,hp,t1,t2,c68,j490,zh4]
theorem zt6 (h:4<=n)(hn:di+(c+nth pr u-nth pr t)<nth out t)(h0:0<=di+(c+nth pr u-nth pr t)){L:Nat}(hK:K.length=L)(hV:V.length=L)(hL:m+1<=L)(hm:m<=20000000000):∃K' V':List Int,K'.length=L/\V'.length=L/\(prs K' V' (m+1)).Perm ((di+(c+nth pr u-nth pr t),(t:Int))::prs K V m) /\
  call gl tab n 1000490 [wV i t r c bk] (i490 g b sh fl pr out K V m di u)=some (.bool true,i490 g b sh fl pr (out.set t (di+(c+nth pr u-nth pr t))) K' V' (m+1) di u,[]):=by
 obtain⟨d,rfl⟩:=wB h
 have c71:=@zfr gl (d+3) (by omega) g b sh false false fl pr u i t r c bk (by omega) (by omega) hc h1 h2
 have x1:=zb2 (show t<out.length by omega)
 have t1:=zek hf
 have t2:=zek hp
 have hz1:-1099511627776-1073741824<=c+nth pr u-nth pr t/\c+nth pr u-nth pr t<=1099511627776+1073741824:=by omega
 generalize hz:c+nth pr u-nth pr t=z at *
 obtain⟨K',V',e1,e2,e3,c68⟩:=@qcn gl (d+3) (by omega) K V m L (di+z) t hK hV hL hm
 refine⟨K',V',e1,e2,e3,?_⟩
 rw[zd4 (fd:=zky) rfl rfl]
 simp(disch:=apply zq;omega) only[go_sem,simprocAttr,↓Nat.reduceEqDiff,xx,zky,z19,z1z,i490,c71,x1,zab,ho,hf,hp,t1,t2,c68,zh4]
end
end Go.Proofs.S50
namespace Go.Proofs.S50
open Go Go.Ev Go.Proofs Go.Fl
variable {gl :Gl} {n:Nat}
def L90 :MC:=match m90 with| .seq _ (.block _ (.loop _ b))=>b|_=>.skip
abbrev K90 :List Kp:=[.slot 0,.slot 1,.slot 2,.slot 14,.slot 15,.slot 16,.mv 100008 [0] 8080,.mv 100008 [1] 8081]
def bko (g:Nt)(u i:Nat):Bool:= !decide ((art g.a i).f=u)
def f90 (q:List AV)(j:Nat):Fr:=[.set 16 (i64 (j:Int)),.set 15 (i64 (q.length:Int)),.set 14 (.lst false .sc q),.set 2 (.ptr 100014 []),.set 1 (.ptr 100013 []),.set 0 (.yld 100000)]
def h90 (B:Bool)(g:Nt)(b:Bool)(sh:Sh)(fl pr out K V:List Int)(m:Nat)(di:Int)(u:Nat):Hp :=
 if B then [(100014,.fix .sc (i64 (u:Int))),(100013,.fix .sc (.ptr 100002 [])),(100012,.fix .sc (i64 (u:Int))),(100011,.fix .sc (i64 di)),(100010,.dead),(100009,.dead),(100008,.fix sHp (.aggR [.sl 8080 [] 0 m,.sl 8081 [] 0 m])),(100007,.fix .sc (.ptr 100008 [])),(100006,.grow .sc (ns out)),(100005,.fix .sc (.sl 100006 [] 0 g.n)),(100004,.grow .sc (ns pr)),(100003,.grow .sc (ns fl)),(100002,.fix sNw (nwV g b sh 100003 100004)),(100001,.fix .sc (.ptr 100002 [])),(100000,.lp 490 [.ptr 100001 [],.ptr 100005 [],.ptr 100007 [],.ptr 100011 [],.ptr 100012 []] .ready),(8081,.grow .sc (ns V)),(8080,.grow .sc (ns K))]
 else [(100014,.fix .sc (i64 (u:Int))),(100013,.fix .sc (.ptr 100002 [])),(100012,.fix .sc (i64 (u:Int))),(100011,.fix .sc (i64 di)),(100010,.grow .sc (ns V)),(100009,.grow .sc (ns K)),(100008,.fix sHp (.aggR [.sl 100009 [] 0 m,.sl 100010 [] 0 m])),(100007,.fix .sc (.ptr 100008 [])),(100006,.grow .sc (ns out)),(100005,.fix .sc (.sl 100006 [] 0 g.n)),(100004,.grow .sc (ns pr)),(100003,.grow .sc (ns fl)),(100002,.fix sNw (nwV g b sh 100003 100004)),(100001,.fix .sc (.ptr 100002 [])),(100000,.lp 490 [.ptr 100001 [],.ptr 100005 [],.ptr 100007 [],.ptr 100011 [],.ptr 100012 []] .ready)]
def S90 (B:Bool)(g:Nt)(b:Bool)(sh:Sh)(fl pr out K V:List Int)(m:Nat)(di:Int)(u:Nat)(q:List AV)(j:Nat):St:=⟨f90 q j,h90 B g b sh fl pr out K V m di u⟩
section
variable {d :Nat} {g:Nt} {b:Bool} {fl pr out K V:List Int} {m u k:Nat} {di:Int} {q:List AV} {j:Nat} (hf:fl.length=g.a.length) (hM:g.a.length<=4000) (hq:q[j]? =some (i64 (k:Int))) (hk:inc g u k)
 (hb:FB g fl) (hcb:∀i,i<g.a.length->(art g.a i).c<=1073741824) (hkb:∀i,i<g.a.length->0<=(art g.a i).k/\(art g.a i).k<=1048576) (hql:q.length<=4000)
include hf hM hq hk hb hcb hkb hql
set_option maxHeartbeats 4000000 in
theorem qgx {B:Bool}(hr:¬0<room g fl u k):zaz K90 (evC gl (call gl tab (d+1)) L90 (S90 B g b yA4 fl pr out K V m di u q j))=some (S90 B g b yA4 fl pr out K V m di u q (j+1)):=by
 have hj:j<q.length:=by
  have:=wC.1 hq
  exact this.1
 have x1:=zix hk.1
 have x2:=zb2 (show k<fl.length by rw[hf];exact hk.1)
 have h1:=hb.b k hk.1
 have h2:=hcb k hk.1
 have h3:=hkb k hk.1
 have h4:=hk.1
 unfold room at hr
 by_cases e:(art g.a k).f=u
 . rw[if_pos e]at hr
   cases B
   . simp(disch:=apply zq;omega) only[go_sem,simprocAttr,↓Nat.reduceEqDiff,xx,L90,m90,S90,f90,h90,hq,x1,x2,zah,zab,hf,e]
   . simp(disch:=apply zq;omega) only[go_sem,simprocAttr,↓Nat.reduceEqDiff,xx,L90,m90,S90,f90,h90,hq,x1,x2,zah,zab,hf,e]
 . rw[if_neg e]at hr
   have e2:(((art g.a k).f:Int) != (u:Int))=true:=by simp;omega
   cases B
   . simp(disch:=apply zq;omega) only[go_sem,simprocAttr,↓Nat.reduceEqDiff,xx,L90,m90,S90,f90,h90,hq,x1,x2,zah,zab,hf,e2]
   . simp(disch:=apply zq;omega) only[go_sem,simprocAttr,↓Nat.reduceEqDiff,xx,L90,m90,S90,f90,h90,hq,x1,x2,zah,zab,hf,e2]
set_option maxHeartbeats 4000000 in
theorem in90 {B:Bool}{out' K' V':List Int}{m':Nat}(hr:0<room g fl u k)(c:call gl tab (d+1) 1000490 [wV k (oth g u k) (room g fl u k) (cst g u k) (bko g u k)] (i490 g b yA4 fl pr out K V m di u)=some (.bool true,i490 g b yA4 fl pr out' K' V' m' di u,[])) :
  zaz K90 (evC gl (call gl tab (d+1)) L90 (S90 B g b yA4 fl pr out K V m di u q j))=some (S90 B g b yA4 fl pr out' K' V' m' di u q (j+1)):=by
 have hj:j<q.length:=by
  have:=wC.1 hq
  exact this.1
 have x1:=zix hk.1
 have x2:=zb2 (show k<fl.length by rw[hf];exact hk.1)
 have h1:=hb.b k hk.1
 have h2:=hcb k hk.1
 have h3:=hkb k hk.1
 have h4:=hk.1
 unfold room oth cst bko at c
 unfold room at hr
 by_cases e:(art g.a k).f=u
 . rw[if_pos e]at hr
   rw[if_pos e,if_pos e,if_pos e,decide_eq_true e]at c
   simp only[i490,j490,Bool.not_true]at c
   cases B
   . simp(disch:=apply zq;omega) only[go_sem,simprocAttr,↓Nat.reduceEqDiff,xx,L90,m90,S90,f90,h90,hq,x1,x2,zah,zab,hf,e,c,zbp]
   . simp(disch:=apply zq;omega) only[go_sem,simprocAttr,↓Nat.reduceEqDiff,xx,L90,m90,S90,f90,h90,hq,x1,x2,zah,zab,hf,e,c,zbp]
 . rw[if_neg e]at hr
   have e2:(((art g.a k).f:Int) != (u:Int))=true:=by simp;omega
   rw[if_neg e,if_neg e,if_neg e,decide_eq_false e,show -(art g.a k).k=0-(art g.a k).k by omega]at c
   simp only[i490,j490,Bool.not_false]at c
   cases B
   . simp(disch:=apply zq;omega) only[go_sem,simprocAttr,↓Nat.reduceEqDiff,xx,L90,m90,S90,f90,h90,hq,x1,x2,zah,zab,hf,e2,c,zbp]
   . simp(disch:=apply zq;omega) only[go_sem,simprocAttr,↓Nat.reduceEqDiff,xx,L90,m90,S90,f90,h90,hq,x1,x2,zah,zab,hf,e2,c,zbp]
set_option maxHeartbeats 4000000 in
theorem qky {B:Bool}{out' K' V':List Int}{m':Nat}(hr:0<room g fl u k)(c:call gl tab (d+1) 1000490 [wV k (oth g u k) (room g fl u k) (cst g u k) (bko g u k)] (i490 g b yA4 fl pr out K V m di u)=some (.bool true,j490 g b yA4 fl pr out' 20000 20001 m' di u,[.grow .sc (ns K'),.grow .sc (ns V')])) :
  zaz K90 (evC gl (call gl tab (d+1)) L90 (S90 B g b yA4 fl pr out K V m di u q j))=some (S90 true g b yA4 fl pr out' K' V' m' di u q (j+1)):=by
 have hj:j<q.length:=by
  have:=wC.1 hq
  exact this.1
 have x1:=zix hk.1
 have x2:=zb2 (show k<fl.length by rw[hf];exact hk.1)
 have h1:=hb.b k hk.1
 have h2:=hcb k hk.1
 have h3:=hkb k hk.1
 have h4:=hk.1
 unfold room oth cst bko at c
 unfold room at hr
 by_cases e:(art g.a k).f=u
 . rw[if_pos e]at hr
   rw[if_pos e,if_pos e,if_pos e,decide_eq_true e]at c
   simp only[i490,j490,Bool.not_true]at c
   cases B
   . simp(disch:=apply zq;omega) only[go_sem,simprocAttr,↓Nat.reduceEqDiff,xx,L90,m90,S90,f90,h90,hq,x1,x2,zah,zab,hf,e,c,zbp]
   . simp(disch:=apply zq;omega) only[go_sem,simprocAttr,↓Nat.reduceEqDiff,xx,L90,m90,S90,f90,h90,hq,x1,x2,zah,zab,hf,e,c,zbp]
 . rw[if_neg e]at hr
   have e2:(((art g.a k).f:Int) != (u:Int))=true:=by simp;omega
   rw[if_neg e,if_neg e,if_neg e,decide_eq_false e,show -(art g.a k).k=0-(art g.a k).k by omega]at c
   simp only[i490,j490,Bool.not_false]at c
   cases B
   . simp(disch:=apply zq;omega) only[go_sem,simprocAttr,↓Nat.reduceEqDiff,xx,L90,m90,S90,f90,h90,hq,x1,x2,zah,zab,hf,e2,c,zbp]
   . simp(disch:=apply zq;omega) only[go_sem,simprocAttr,↓Nat.reduceEqDiff,xx,L90,m90,S90,f90,h90,hq,x1,x2,zah,zab,hf,e2,c,zbp]
end
end Go.Proofs.S50
