/-
  Flows: a freight is told. No condition.
-/
import Derived.Test.YtaloneiaejhopaaDoorW50G10x3
set_option linter.all false
open Nat renaming exists_eq_add_of_le'->wB,le_refl->wC
open List renaming length_singleton->wD,isEmpty_nil->wE,isEmpty_iff->wF
namespace Go.Proofs.S50
open Go Go.Ev Go.Proofs Go.Fl
variable {gl :Gl} {n:Nat}
def cutL (out:List Int):Nat->List Nat
 | 0=>[]
 | i+1=>if nth out i<far then cutL out i++[i]else cutL out i
theorem zqv (out:List Int):∀i,(cutL out i).length<=i
 | 0=>wC _
 | i+1=>by
   have:=zqv out i
   rw[cutL];split
   . rw[List.length_append,wD];omega
   . omega
abbrev sFr :Sh:=.st [.sc,.sc,.sc,.sc,.sc]
def L50 :MC:=match m50 with| .seq _ (.seq _ (.seq (.seq _ (.block _ (.loop _ b))) _))=>b|_=>.skip
abbrev K50 :List Kp:=[.slot 6,.slot 7,.slot 22,.slot 23,.slot 24,.key 6,.key 7,.mv 7 [4] 6074]
def cV (l:List Nat):AV:=if l.isEmpty then .lst true .sc []else .sl 6074 [] 0 l.length
def cH (l:List Nat):Hp:=if l.isEmpty then []else [(6074,.grow .sc (us l))]
def S50 (g:Nt)(b:Bool)(sh:Sh)(fl pr out:List Int)(sent co:Int)(i:Nat):St :=
 ⟨[.set 24 (i64 (i:Int)),.set 23 (i64 (g.n:Int)),.set 22 (.sl 100003 [] 0 g.n),.set 7 (.ptr 7 []),.set 6 (.ptr 6 [])],
   [(100003,.grow .sc (ns out)),(100002,.grow .sc (ns pr)),(100001,.grow .sc (ns fl)),(100000,.fix sNw (nwV g b sh 100001 100002))]++cH (cutL out i)++[(7,.fix sFr (.aggR [i64 sent,i64 co,.sl 100001 [] 0 g.a.length,.sl 100002 [] 0 g.n,cV (cutL out i)])),(6,.fix sFr zA5)]⟩
section
variable {d :Nat} {g:Nt} {b:Bool} {sh:Sh} {fl pr out:List Int} {sent co:Int}
theorem qga (ho:out.length=g.n)(hN:g.n<=1000){i:Nat}(hi:i<g.n):zaz K50 (evC gl (call gl tab d) L50 (S50 g b sh fl pr out sent co i))=some (S50 g b sh fl pr out sent co (i+1)):=by
 have x1:=zb2 (show i<out.length by omega)
 have hl:=zqv out i
 have l1:1<=LIM:=by unfold LIM;omega
 have tk:∀(u:List AV) (v:AV),(u++[v]).take (u.length+1)=u++[v]:=fun u v=>List.take_of_length_le (by simp)
 have ua:us (cutL out i++[i])=us (cutL out i)++[i64 (i:Int)]:=zkq _ _
 by_cases hf:nth out i<far
 . have e:cutL out (i+1)=cutL out i++[i]:=by rw[cutL,if_pos hf]
   unfold S50
   rw[e]
   have hf':nth out i<4611686018427387904:=hf
   cases he:(cutL out i).isEmpty with
   | true =>
     obtain h0:=wF.1 he
     rw[h0]
     simp(disch:=apply zq;omega) only[go_sem,simprocAttr,↓Nat.reduceEqDiff,xx,L50,m50,cV,cH,x1,zab,ho,wE,List.nil_append,List.isEmpty_cons,us,List.map_cons,List.map_nil,wD,l1]
   | false =>
     have h2:(cutL out i++[i]).isEmpty=false:=by simp
     have ul:=zao (cutL out i)
     have l2:(cutL out i).length+1<=LIM:=by unfold LIM;omega
     have lla:(cutL out i++[i]).length=(cutL out i).length+1:=by simp
     unfold cV cH
     rw[he,h2,lla,ua]
     generalize us (cutL out i)=ul0 at *
     generalize (cutL out i).length=ll at *
     subst ul
     simp(disch:=apply zq;omega) only[go_sem,simprocAttr,↓Nat.reduceEqDiff,xx,L50,m50,x1,zab,ho,l2,tk]
 . have e:cutL out (i+1)=cutL out i:=by rw[cutL,if_neg hf]
   unfold S50
   rw[e]
   have hf':¬nth out i<4611686018427387904:=hf
   cases he:(cutL out i).isEmpty with
   | true=>simp(disch:=apply zq;omega) only[go_sem,simprocAttr,↓Nat.reduceEqDiff,xx,L50,m50,cV,cH,x1,zab,ho,he]
   | false =>
     simp(disch:=apply zq;omega) only[go_sem,simprocAttr,↓Nat.reduceEqDiff,xx,L50,m50,cV,cH,x1,zab,ho,he]
def frV (g:Nt)(fl:List Int)(sent:Int)(c:AV):AV:=.aggR [i64 sent,i64 (tot g.a fl g.a.length),.sl 100001 [] 0 g.a.length,.sl 100002 [] 0 g.n,c]
theorem zuy (h:2<=n)(hsh:g.a=[]\/sh=yA4)(hg:GOk g)(hb:FB g fl)(hp:pr.length=g.n):call gl tab n 50 [.ptr 100000 [],i64 sent,.lst true .sc []] (nwH g b sh fl pr)=some (frV g fl sent (.lst true .sc []),nwH g b sh fl pr,[]):=by
 obtain⟨d,rfl⟩:=wB h
 have c72:=@zvs gl (d+1) g b false false sh fl pr (by omega) hsh hb.l hg.a hg.ok.k (fun i hi=>by have:=hb.b i hi;have:=hg.c i hi;omega)
 have t1:=zek hb.l
 have t2:=zek hp
 rw[zbo (fd:=fd50) rfl]
 simp(disch:=apply zq;omega) only[go_sem,simprocAttr,↓Nat.reduceEqDiff,xx,fd50,m50,t1,t2,c72,zab,hb.l,hp]
 rw[zak (fun _=>⟨[.set 24 (i64 0),.set 23 (i64 0),.set 22 (.lst true .sc []),.set 7 (.ptr 7 []),.set 6 (.ptr 6 [])],[(100002,.grow .sc (ns pr)),(100001,.grow .sc (ns fl)),(100000,.fix sNw (nwV g b sh 100001 100002)),(7,.fix sFr (.aggR [i64 sent,i64 (tot g.a fl g.a.length),.sl 100001 [] 0 g.a.length,.sl 100002 [] 0 g.n,.lst true .sc []])),(6,.fix sFr zA5)]⟩) 0 (by unfold LF;omega)]
 . simp(disch:=apply zq;omega) only[go_sem,simprocAttr,↓Nat.reduceEqDiff,xx,frV]
 . simp(disch:=apply zq;omega) only[go_sem,simprocAttr,↓Nat.reduceEqDiff,xx]
 . intro i hi;omega
 . simp(disch:=apply zq;omega) only[go_sem,simprocAttr,↓Nat.reduceEqDiff,xx]
theorem zmx (h:2<=n)(hsh:g.a=[]\/sh=yA4)(hg:GOk g)(hb:FB g fl)(hp:pr.length=g.n)(ho:out.length=g.n)(hc:cutL out g.n≠[]):call gl tab n 50 [.ptr 100000 [],i64 sent,.sl 100003 [] 0 g.n] (nwH g b sh fl pr++[(100003,.grow .sc (ns out))]) =
  some (frV g fl sent (.sl 20000 [] 0 (cutL out g.n).length),nwH g b sh fl pr++[(100003,.grow .sc (ns out))],[.grow .sc (us (cutL out g.n))]):=by
 obtain⟨d,rfl⟩:=wB h
 have c72:=@zvs gl (d+1) g b false false sh fl pr (by omega) hsh hb.l hg.a hg.ok.k (fun i hi=>by have:=hb.b i hi;have:=hg.c i hi;omega)
 have t1:=zek hb.l
 have t2:=zek hp
 have hs:=fun i hi=>@qga gl (d+1) g b sh fl pr out sent (tot g.a fl g.a.length) ho (by have:=hg.n;omega) i hi
 have he:(cutL out g.n).isEmpty=false:=by
  cases h:(cutL out g.n).isEmpty with
  | false=>rfl
  | true=>exact absurd (wF.1 h) hc
 simp only[L50,m50]at hs
 rw[zbo (fd:=fd50) rfl]
 simp(disch:=apply zq;omega) only[go_sem,simprocAttr,↓Nat.reduceEqDiff,xx,fd50,m50,t1,t2,c72,zab,hb.l,hp]
 rw[zak (S50 g b sh fl pr out sent (tot g.a fl g.a.length)) g.n (by have:=hg.n;unfold LF;omega)]
 . unfold S50 cV cH
   rw[he]
   simp(disch:=apply zq;omega) only[go_sem,simprocAttr,↓Nat.reduceEqDiff,xx,frV]
 . simp(disch:=apply zq;omega) only[go_sem,simprocAttr,↓Nat.reduceEqDiff,xx,S50,cV,cH,cutL,wE]
 . exact hs
 . unfold S50 cV cH
   rw[he]
   simp(disch:=apply zq;omega) only[go_sem,simprocAttr,↓Nat.reduceEqDiff,xx]
end
end Go.Proofs.S50
namespace Go.Proofs.S50
open Go Go.Ev Go.Proofs Go.Fl
variable {gl :Gl} {n:Nat}
abbrev nV (g:Nt)(b:Bool)(sh:Sh):AV:=.agg [i64 (g.n:Int),.lst b sh (rs g.a)]
def L46 :MC:=match m46 with| .seq _ (.seq _ (.seq _ (.seq _ (.seq (.seq _ (.block _ (.loop _ b))) _))))=>b|_=>.skip
theorem z1v (h:1<=n){g:Nt}{b:Bool}{sh:Sh}{k:Nat}(hk:k<g.n):call gl tab n 66 [i64 (k:Int),.cp sNt (nV g b sh)] []=some (.bool true,[],[]):=by
 obtain⟨d,rfl⟩:=wB h
 rw[zai (fd:=fd66) rfl]
 simp(disch:=apply zq;omega) only[go_sem,simprocAttr,↓Nat.reduceEqDiff,xx,fd66,m66]
def S46 (g:Nt)(b:Bool)(sh:Sh)(i:Nat):St:=⟨[.set 22 (i64 (i:Int)),.set 21 (i64 (g.a.length:Int)),.set 20 (.lst b sh (rs g.a)),.set 3 (.fn 66 [.ptr 1 []])],[(1,.fix sNt (nV g b sh))]⟩
section
variable {d :Nat} {g:Nt} {b:Bool} {sh:Sh} (hg:GOk g) (hsh:g.a=[]\/sh=yA4)
include hg hsh
theorem qge {i:Nat}(hi:i<g.a.length):zaz [.slot 3,.slot 20,.slot 21,.slot 22,.key 1] (evC gl (call gl tab (d+1)) L46 (S46 g b sh i))=some (S46 g b sh (i+1)):=by
 have hsh:sh=yA4:=hsh.resolve_left (fun e=>by rw[e]at hi;simp at hi)
 subst hsh
 have x1:=zix hi
 have h1:=hg.ok.f i hi
 have h2:=hg.ok.t i hi
 have h3:=hg.ok.ne i hi
 have h4:=hg.ok.c i hi
 have h5:=hg.c i hi
 have h6:=hg.ok.k i hi
 have h7:=hg.a
 have c1:=@z1v gl (d+1) (by omega) g b yA4 _ h1
 have c2:=@z1v gl (d+1) (by omega) g b yA4 _ h2
 have e:(((art g.a i).f:Int)==((art g.a i).t:Int))=false:=by rw[beq_eq_false_iff_ne];omega
 simp(disch:=apply zq;omega) only[go_sem,simprocAttr,↓Nat.reduceEqDiff,xx,L46,m46,S46,x1,zah,c1,c2,e]
theorem z84 (h:2<=n)(hn:1<=g.n)(ha:g.a.length<=2048):call gl tab n 46 [nV g b sh] []=some (i64 0,[],[]):=by
 obtain⟨d,rfl⟩:=wB h
 have hs:=fun i hi=>@qge gl d g b sh hg hsh i hi
 have h1:=hg.n
 simp only[L46,m46]at hs
 rw[zai (fd:=fd46) rfl]
 simp(disch:=apply zq;omega) only[go_sem,simprocAttr,↓Nat.reduceEqDiff,xx,fd46,m46,zah]
 rw[zak (S46 g b sh) g.a.length (by unfold LF;omega)]
 . simp(disch:=apply zq;omega) only[go_sem,simprocAttr,↓Nat.reduceEqDiff,xx,S46]
 . simp(disch:=apply zq;omega) only[go_sem,simprocAttr,↓Nat.reduceEqDiff,xx,S46]
 . exact hs
 . simp(disch:=apply zq;omega) only[go_sem,simprocAttr,↓Nat.reduceEqDiff,xx,S46]
end
theorem qaz (h:1<=n){g:Nt}{b:Bool}{sh:Sh}{s to:Nat}{A:Int}(hs:s<g.n)(ht:to<g.n)(hne:s≠to)(hA:0<=A/\A<=1099511627776):call gl tab n 47 [nV g b sh,i64 (s:Int),i64 (to:Int),i64 A] []=some (.bool true,[],[]):=by
 obtain⟨d,rfl⟩:=wB h
 have e:((s:Int) != (to:Int))=true:=by simp;omega
 rw[zai (fd:=fd47) rfl]
 simp(disch:=apply zq;omega) only[go_sem,simprocAttr,↓Nat.reduceEqDiff,xx,fd47,m47,e]
end Go.Proofs.S50
namespace Go.Proofs.S50
open Go Go.Ev Go.Proofs Go.Fl
variable {gl :Gl} {n:Nat}
def nxp (pr out:List Int)(to:Nat):Nat->List Int
 | 0=>pr
 | k+1=>(nxp pr out to k).set k (nth (nxp pr out to k) k+mi (nth out k) (nth out to))
theorem zmf (pr out:List Int)(to:Nat):∀k,(nxp pr out to k).length=pr.length
 | 0=>rfl
 | k+1=>by rw[nxp,List.length_set,zmf pr out to k]
theorem zwc {pr out:List Int}{to j:Nat}:∀{k:Nat},k<=pr.length->nth (nxp pr out to k) j=if j<k then nth pr j+mi (nth out j) (nth out to)else nth pr j
 | 0,_=>by rw[if_neg (by omega)];rfl
 | k+1,hk=>by
   rw[nxp,zcb (by rw[zmf];omega)]
   by_cases e:j=k
   . subst e
     rw[if_pos rfl,if_pos (by omega),zwc (by omega),if_neg (by omega)]
   . rw[if_neg e,zwc (by omega)]
     by_cases h:j<k
     . rw[if_pos h,if_pos (by omega)]
     . rw[if_neg h,if_neg (by omega)]
def L18 :MC:=match m18 with| .seq _ (.seq _ (.seq _ (.seq _ (.seq _ (.seq (.block _ (.loop _ b)) _)))))=>b|_=>.skip
def L18b :MC:=match m18 with| .seq _ (.seq _ (.seq _ (.seq _ (.seq _ (.seq (.block _ (.loop _ (.seq _ (.block _ (.seq _ (.seq _ (.seq (.seq _ (.block _ (.loop _ b))) _))))))) _)))))=>b|_=>.skip
def L18c :MC:=match m18 with| .seq _ (.seq _ (.seq _ (.seq _ (.seq _ (.seq (.block _ (.loop _ (.seq _ (.block _ (.seq _ (.seq _ (.seq _ (.seq _ (.block _ (.loop _ b)))))))))) _)))))=>b|_=>.skip
abbrev K18 :List Kp:=[.slot 1,.slot 2,.slot 3,.slot 8,.slot 11,.slot 12,.key 8,.key 33,.key 34,.key 1034]
abbrev K18b :List Kp:=[.slot 1,.slot 2,.slot 3,.slot 8,.slot 11,.slot 12,.slot 13,.slot 54,.slot 55,.key 8,.key 33,.key 34,.key 1034,.key 40]
abbrev K18c :List Kp:=[.slot 1,.slot 2,.slot 3,.slot 8,.slot 11,.slot 12,.slot 15,.key 8,.key 33,.key 34,.key 1034]
def h18 (g:Nt)(b:Bool)(sh:Sh)(fl pr:List Int):Hp:=[(1034,.grow .sc (ns pr)),(34,.fix sNw (nwV g b sh 33 1034)),(33,.grow .sc (ns fl)),(8,.fix sFr zA5)]
def f18 (s to:Nat)(A sent:Int):Fr:=[.set 12 (i64 sent),.set 11 (.ptr 34 []),.set 8 (.ptr 8 []),.set 3 (i64 A),.set 2 (i64 (to:Int)),.set 1 (i64 (s:Int))]
def S18 (g:Nt)(b:Bool)(sh:Sh)(s to:Nat)(A:Int)(fl pr:List Int)(sent:Int):St:=⟨f18 s to A sent,h18 g b sh fl pr⟩
def S18b (g:Nt)(b:Bool)(sh:Sh)(s to:Nat)(A:Int)(fl pr out:List Int)(sent:Int)(k:Nat):St:=⟨[.set 55 (i64 (k:Int)),.set 54 (i64 (g.n:Int)),.set 13 (.sl 40 [] 0 g.n)]++f18 s to A sent,(40,.grow .sc (ns out))::h18 g b sh fl (nxp pr out to k)⟩
def S18c (g:Nt)(b:Bool)(sh:Sh)(s to:Nat)(A:Int)(fl pr:List Int)(sent more:Int):St:=⟨.set 15 (i64 more)::f18 s to A sent,h18 g b sh fl pr⟩
section
variable {d :Nat} {g:Nt} {b:Bool} {sh:Sh} {s to:Nat} {A:Int} {fl pr out:List Int} {sent more:Int}
theorem qbp (hp:pr.length=g.n)(ho:out.length=g.n)(hN:g.n<=100)(ht:to<g.n){k:Nat}(hk:k<g.n)(h1:0<=nth pr k/\nth pr k<=1099511627776)(h2:0<=nth out k/\0<=nth out to/\nth out to<=1099511627776) :
  zaz K18b (evC gl (call gl tab d) L18b (S18b g b sh s to A fl pr out sent k))=some (S18b g b sh s to A fl pr out sent (k+1)):=by
 have hl:=zmf pr out to k
 have x1:=zb2 (show k<(nxp pr out to k).length by omega)
 have x2:=zb2 (show k<out.length by omega)
 have x3:=zb2 (show to<out.length by omega)
 have e:nth (nxp pr out to k) k=nth pr k:=by rw[zwc (by omega),if_neg (by omega)]
 have e2:nxp pr out to (k+1)=(nxp pr out to k).set k (nth (nxp pr out to k) k+mi (nth out k) (nth out to)):=rfl
 have hm:=zuk (nth out k) (nth out to)
 have emi:(if nth out to<nth out k then nth out to else nth out k)=mi (nth out k) (nth out to):=rfl
 unfold S18b
 rw[e2,e]
 rw[e]at x1
 generalize nxp pr out to k=pk at *
 generalize mi (nth out k) (nth out to)=z at *
 simp(disch:=apply zq;omega) only[go_sem,simprocAttr,↓Nat.reduceEqDiff,xx,L18b,m18,f18,h18,zh4,x1,x2,x3,zab,hl,hp,ho,zgt,zmg,Option.bind_some,emi]
theorem qbo {fl':List Int}{r:Int}(hm:0<more)(hs:sent<A)(hA:0<=sent/\A<=1099511627776)(hr:0<=r/\r<=A)(c51:call gl tab d 51 [.ptr 100000 [],i64 (s:Int),i64 (to:Int),i64 (A-sent)] (nwH g b sh fl pr)=some (i64 r,nwH g b sh fl' pr,[])) :
  zaz K18c (evC gl (call gl tab d) L18c (S18c g b sh s to A fl pr sent more))=some (S18c g b sh s to A fl' pr (sent+r) r):=by
 have hm':more>0:=hm
 simp(disch:=apply zq;omega) only[go_sem,simprocAttr,↓Nat.reduceEqDiff,xx,L18c,m18,S18c,f18,h18,c51]
end
structure C9 where
 fl:List Int
 sent:Int
 more:Int
section
variable {d :Nat} {g:Nt} {b:Bool} {s to:Nat} {A:Int} {fl pr:List Int} {sent:Int} (hg:GOk g) (hgn:g.a≠[]) (hs:s<g.n) (ht:to<g.n) (hA:A<=1099511627776) (hd:3*g.n+12<=d) (hsi:SI g 1048576 s to A fl pr sent) (hlt:sent<A)
include hg hgn hs ht hA hd hsi hlt
set_option maxHeartbeats 4000000 in
theorem qgn {out:List Int}(hdi:DI g fl pr s out [])(hnf:nth out to≠far)(c49:call gl tab d 49 [.ptr 100000 [],i64 (s:Int)] (nwH g b yA4 fl pr)=some (.sl 20000 [] 0 g.n,nwH g b yA4 fl pr,[.grow .sc (ns out)])) :
  ∃fl' pr' sent',SI g 1048576 s to A fl' pr' sent'/\sent<sent'/\zaz K18 (evC gl (call gl tab d) L18 (S18 g b yA4 s to A fl pr sent))=some (S18 g b yA4 s to A fl' pr' sent'):=by
 have hnK:(g.n:Int)*1048576<=100*1048576:=Int.mul_le_mul_of_nonneg_right (by have:=hg.n;omega) (by decide)
 have hout:nth out to+nth pr to<=(g.n:Int)*1048576:=(qai hg.ok (by decide) (by omega) hs hsi.rn hsi.pb hdi ht).resolve_left hnf
 have hpt:=(hsi.pb.b to ht).1
 have h0:∀k,k<g.n->0<=nth out k:=fun k hk=>z4r hdi hsi.rn hk
 have hot:=h0 to ht
 have hnext:=qco hg.ok (by decide) (by omega) hs ht hsi.rn hsi.pb hdi (by unfold far;omega) (pr':=nxp pr out to g.n) (by rw[zmf];exact hsi.pb.l) (fun k hk=>by rw[zwc (by rw[hsi.pb.l];exact wC _),if_pos hk])
 obtain⟨hrn,hpb,hz⟩:=hnext
 have hsi2:=hsi.price hrn hpb
 have hb:=fun k hk=>@qbp gl d g b yA4 s to A fl pr out sent hsi.pb.l hdi.l hg.n ht k hk (by have:=hsi.pb.b k hk;have:=hsi.pb.t;omega) ⟨h0 k hk,hot,by omega⟩
 generalize hpr':nxp pr out to g.n=pr' at *
 obtain⟨a,⟨ha,hap⟩,hfin,hiter⟩:=zmo (f:=evC gl (call gl tab d) L18c) (ks:=K18c) (fun a:C9=>S18c g b yA4 s to A a.fl pr' a.sent a.more) (fun a=>SI g 1048576 s to A a.fl pr' a.sent/\(sent<a.sent\/(a.sent=sent/\a.more=1/\a.fl=fl))) (fun a=>¬(0<a.more/\a.sent<A)) (fun a=>2*(A-a.sent).toNat+(if 0<a.more then 1 else 0)) (a0:=⟨fl,sent,1⟩)
  (by have:=hsi.sa;unfold LF;simp only;split<;>omega) ⟨hsi2,.inr ⟨rfl,rfl,rfl⟩⟩
  (fun a ⟨ha,hap⟩=>by
    by_cases hc:0<a.more/\a.sent<A
    . obtain⟨fl',dead',r,hpp,c51⟩:=qd6 (gl:=gl) (n:=d) (b:=b) (pr:=pr') (fl:=a.fl) (s:=s) (to:=to) (M:=A-a.sent) hg hgn hpb hs (by omega) (by have:=ha.sa;omega) ha.fb ha.rn (by omega)
      have hrs:=hpp.s
      have hsa:=ha.sa
      have hpos:a.sent=sent/\a.more=1/\a.fl=fl->0<r:=fun⟨_,_,h3⟩=>by
       refine qhe hpp (by omega) (fun v=> ?_) (by rw[h3];exact hz)
       unfold dd;rw[List.getD_eq_getElem?_getD,List.getElem?_replicate];split<;>rfl
      refine .inr ⟨⟨fl',a.sent+r,r⟩,⟨ha.push hpp,?_⟩,?_,qbo hc.1 hc.2 ⟨hsa.1,hA⟩ ⟨hrs.1,by omega⟩ c51⟩
      . left
        rcases hap with h|h
        . simp only;omega
        . have:=hpos h;simp only;omega
      . simp only[if_pos hc.1]
        split<;>omega
    . refine .inl ⟨hc,?_⟩
      obtain⟨f,se,mo⟩:=a
      simp only at hc ⊢
      have hsa:=ha.sa
      simp only at hsa
      by_cases h1:mo>0
      . have h2:¬se<A:=fun h=>hc ⟨h1,h⟩
        simp(disch:=apply zq;omega) only[go_sem,simprocAttr,↓Nat.reduceEqDiff,xx,L18c,m18,S18c,f18,h18]
      . simp(disch:=apply zq;omega) only[go_sem,simprocAttr,↓Nat.reduceEqDiff,xx,L18c,m18,S18c,f18,h18])
 have hprog:sent<a.sent:=by
  rcases hap with h|⟨h1,h2,h3⟩
  . exact h
  . exact absurd ⟨by omega,by omega⟩ hfin
 refine⟨a.fl,pr',a.sent,ha,hprog,?_⟩
 obtain⟨f,se,mo⟩:=a
 simp only at hfin hiter ha ⊢
 have x3:=zb2 (show to<out.length by rw[hdi.l];exact ht)
 have e1:(nth out to==4611686018427387904)=false:=by rw[beq_eq_false_iff_ne];exact hnf
 simp only[L18b,m18]at hb
 simp only[L18c,m18]at hiter
 have hpl:=hsi.pb.l
 have hpl':pr'.length=g.n:=by rw[<-hpr',zmf];exact hsi.pb.l
 simp(disch:=apply zq;omega) only[go_sem,simprocAttr,↓Nat.reduceEqDiff,xx,L18,m18,S18,f18,h18,hlt,c49,zbp,x3,e1,zab,hdi.l]
 rw[zak (S18b g b yA4 s to A fl pr out sent) g.n (by have:=hg.n;unfold LF;omega)]
 . simp(disch:=apply zq;omega) only[go_sem,simprocAttr,↓Nat.reduceEqDiff,xx,S18b,f18,h18,hpr']
   rw[hiter]
   . have hsa:=ha.sa
     by_cases h1:mo>0
     . have h2:¬se<A:=fun h=>hfin ⟨h1,h⟩
       simp(disch:=apply zq;omega) only[go_sem,simprocAttr,↓Nat.reduceEqDiff,xx,S18c,f18,h18]
     . simp(disch:=apply zq;omega) only[go_sem,simprocAttr,↓Nat.reduceEqDiff,xx,S18c,f18,h18]
   . simp(disch:=apply zq;omega) only[go_sem,simprocAttr,↓Nat.reduceEqDiff,xx,S18c,f18,h18]
 . simp(disch:=apply zq;omega) only[go_sem,simprocAttr,↓Nat.reduceEqDiff,xx,S18b,f18,h18,nxp]
 . exact hb
 . simp(disch:=apply zq;omega) only[go_sem,simprocAttr,↓Nat.reduceEqDiff,xx,S18b,f18,h18]
end
end Go.Proofs.S50
