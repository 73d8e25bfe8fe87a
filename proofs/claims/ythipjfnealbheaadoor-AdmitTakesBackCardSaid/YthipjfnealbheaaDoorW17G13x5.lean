/-
  Chapter 8: the least of a key's cells; counts. No condition.
-/
import Derived.Test.YthipjfnealbheaaDoorW17G12x5
import Derived.Test.YthipjfnealbheaaDoorW17G10x5
import Derived.Test.YthipjfnealbheaaDoorW17G11x5
import Derived.KernelRfl
set_option linter.all false
open Nat renaming exists_eq_add_of_le'->wB
namespace Go.Proofs.S17.K
open Go Go.Ev Go.Proofs
section
variable {gl :Gl} {n:Nat}
def mn (x y:Int):Int:=if y<x then y else x
def lea (l:List Int)(p:Nat->Nat):Nat->Int
 | 0=>15
 | i+1=>mn (lea l p i) (nat l (p i))
theorem qf5 (p:Nat->Nat)(i:Nat)(h:i<4):(P4 p)[i]? =some (i64 (p i)):=by
 match i,h with
 | 0,_=>rfl
 | 1,_=>rfl
 | 2,_=>rfl
 | 3,_=>rfl
theorem z2o (p:Nat->Nat):(P4 p).length=4:=rfl
theorem qb2 (p:Nat->Nat):(P4 p).all AV.scalar=true:=rfl
def lpr :OB:=.lp 790 [.ptr 100001 []] .ready
theorem round_at (h:1<=n)(a x:Int):call gl tab n 1000790 [.cp .sc (i64 x)] [(100000,lpr),(100001,.fix .sc (i64 a))]=some (.bool true,[(100000,lpr),(100001,.fix .sc (i64 (mn a x)))],[]):=by
 obtain⟨d,rfl⟩:=wB h
 rw[zf9 (fd:=zuq) rfl rfl]
 simp(disch:=apply zq;omega) only[go_sem,simprocAttr,↓Nat.reduceEqDiff,xx,zuq,z9t,z9r,lpr,zj2,zoe,mn]
theorem qa2 (h:1<=n)(f:Bool)(m:Sh)(l:List Int)(p:Nat->Nat):call gl tab n 85 [.lst f m (ns l),.agg (P4 p)] []=some (.fn 87 [.ptr 20000 [],.ptr 20001 []],[],[.fix (.ar 4 .sc) (.agg (P4 p)),.fix .sc (.lst f m (ns l))]):=by
 obtain⟨d,rfl⟩:=wB h
 rw[zbe (fd:=fd85) rfl]
 simp(disch:=apply zq;omega) only[go_sem,simprocAttr,↓Nat.reduceEqDiff,xx,fd85,m85,P4]
def L43 :MC:=match m87 with| .seq _ (.block _ (.loop _ b))=>b|_=>.skip
def S43 (f:Bool)(m:Sh)(l:List Int)(p:Nat->Nat)(i:Nat):St :=
 ⟨[.set 7 (i64 i),.set 6 (.agg (P4 p)),.set 2 (.ptr 100003 []),.set 0 (.yld 100000)],[(100003,.fix .sc (.lst f m (ns l))),(100002,.fix (.ar 4 .sc) (.agg (P4 p))),(100001,.fix .sc (i64 (lea l p i))),(100000,lpr)]⟩
set_option maxHeartbeats 1000000 in
theorem zzt (h:2<=n){f:Bool}{l:List Int}{p:Nat->Nat}(hp:∀i,i<4->p i<l.length)(hl:l.length<2^20) :
  call gl tab n 87 [.yld 100000,.ptr 100002 [],.ptr 100003 []] [(100000,lpr),(100001,.fix .sc (i64 15)),(100002,.fix (.ar 4 .sc) (.agg (P4 p))),(100003,.fix .sc (.lst f .sc (ns l)))] =
   some (.tup [],[(100000,lpr),(100001,.fix .sc (i64 (lea l p 4))),(100002,.fix (.ar 4 .sc) (.agg (P4 p))),(100003,.fix .sc (.lst f .sc (ns l)))],[]):=by
 obtain⟨d,rfl⟩:=wB h
 have hs:∀i,i<4->zbp [.slot 0,.slot 2,.slot 6,.slot 7] (evC gl (call gl tab (d+1)) L43 (S43 f .sc l p i))=some (S43 f .sc l p (i+1)):=fun i hi=>by
  have hx:=ns_at (hp i hi)
  have hy:=qf5 p i hi
  have hlp:=z2o p
  have hsc:=qb2 p
  have hpi:=hp i hi
  have c:=@round_at gl (d+1) (by omega) (lea l p i) (nat l (p i))
  have e:lea l p (i+1)=mn (lea l p i) (nat l (p i)):=rfl
  rw[S43,S43,e]
  simp only[lpr]at c
  generalize P4 p=q at *
  simp(disch:=apply zq;omega) only[go_sem,simprocAttr,↓Nat.reduceEqDiff,xx,L43,m87,lpr,hx,hy,hlp,hsc,ns_length,c]
 simp only[L43,m87]at hs
 have hlp:=z2o p
 have hsc:=qb2 p
 rw[zbe (fd:=fd87) rfl]
 generalize hq:P4 p=q at *
 simp(disch:=apply zq;omega) only[go_sem,simprocAttr,↓Nat.reduceEqDiff,xx,fd87,m87,lpr,hlp,hsc]
 rw[zao (S43 f .sc l p) 4 (by unfold LF;omega)]
 . rw[S43,hq];simp(disch:=apply zq;omega) only[go_sem,simprocAttr,↓Nat.reduceEqDiff,xx,lpr]
 . rw[S43,hq];simp(disch:=apply zq;omega) only[go_sem,simprocAttr,↓Nat.reduceEqDiff,xx,lpr,lea]
 . exact hs
 . rw[S43,hq];simp(disch:=apply zq;omega) only[go_sem,simprocAttr,↓Nat.reduceEqDiff,xx,lpr]
theorem z4n (h:3<=n){f:Bool}{l:List Int}{p:Nat->Nat}(hp:∀i,i<4->p i<l.length)(hl:l.length<2^20) :
  call gl tab n 79 [.lst f .sc (ns l),.agg (P4 p)] []=some (i64 (lea l p 4),[],[]):=by
 obtain⟨d,rfl⟩:=wB h
 have c34:=@qa2 gl (d+2) (by omega) f .sc l p
 have c43:=@zzt gl (d+2) (by omega) f l p hp hl
 have hlp:=z2o p
 have hsc:=qb2 p
 simp only[lpr]at c43
 rw[zah (fd:=fd79) rfl]
 generalize hq:P4 p=q at *
 simp(disch:=apply zq;omega) only[go_sem,simprocAttr,↓Nat.reduceEqDiff,xx,fd79,m79,hlp,hsc,c34,c43]
end
section
variable {gl :Gl} {n:Nat}
theorem count_at [Nonempty (H.GlK gl)](h:10<=n){key:List UInt8}(hk:key.length<=5000){w:Nat}(hw:1<=w/\w<=4096){s a:Int}{f:Bool}{l:List Int}(hl:l.length=4*w) :
  call gl tab n 67 [.agg [i64 w,i64 s,i64 a,.lst f .sc (ns l)],.str key] []=some (i64 (lea l (pl key w) 4),[],[]):=by
 obtain⟨d,rfl⟩:=wB h
 have c31:=@of_at gl (d+9) _ (by omega) key hk w hw s a f l
 have c33:=@z4n gl (d+9) (by omega) f l (pl key w) (fun i hi=>by rw[hl];exact zyy hw.1 hi) (by omega)
 rw[zah (fd:=fd67) rfl]
 generalize P4 (pl key w)=q at *
 generalize lea l (pl key w) 4=x at *
 simp(disch:=apply zq;omega) only[go_sem,simprocAttr,↓Nat.reduceEqDiff,xx,fd67,m67,c31,c33]
def S26 (g:Nat->Int)(w:Nat)(s a:Int)(f:Bool)(l:List Int)(key:List UInt8)(i:Nat):St :=
 ⟨[.set 6 (i64 i),.set 5 (i64 (g i)),.set 2 (.ptr 2 []),.set 1 (.str key)],[(2,.fix sK (.agg [i64 w,i64 s,i64 a,.lst f .sc (ns l)]))]⟩
end
end Go.Proofs.S17.K
namespace Go.Proofs.S17.K
open Go Go.Ev Go.Proofs
variable {gl :Gl} {n:Nat}
theorem ns_set (l:List Int)(i:Nat)(v:Int):(ns l).set i (i64 v)=ns (l.set i v):=by simp[ns]
theorem ns_rep (k:Nat):List.replicate k (AV.int .i64 0)=ns (List.replicate k 0):=by simp[ns]
def mpd (f:Nat->Int):Nat->List Int
 | 0=>[]
 | i+1=>mpd f i++[f i]
def bufM (f:Nat->Int)(N i:Nat):List Int:=mpd f i++List.replicate (N-i) 0
def S36 (b:Bool)(fn:AV)(l:List Int)(f:Nat->Int)(i:Nat):St :=
 ⟨[.set 13 (i64 i),.set 12 (i64 l.length),.set 11 (.lst b .sc (ns l)),.set 5 (.sl 10 [] 0 l.length),.set 1 fn],[(10,.grow .sc (ns (bufM f l.length i)))]⟩
end Go.Proofs.S17.K
namespace Go.Proofs.S17.K
open Go Go.Ev Go.Proofs
variable {gl :Gl} {n:Nat}
theorem ns_noImms :∀(l:List Int),zc0 (ns l)=true
 | []=>rfl
 | x::l=>by
   have:=ns_noImms l
   rw[ns,List.map_cons,zc0,<-ns,this];rfl
end Go.Proofs.S17.K
namespace Go.Proofs.S17.K
open Go Go.Ev Go.Proofs
section
variable {gl :Gl} {n:Nat}
def ad (l:List Int)(p:Nat->Nat)(c:Int):Nat->List Int
 | 0=>l
 | i+1=>if nat (ad l p c i) (p i)=c/\c<15 then(ad l p c i).set (p i) (c+1)else ad l p c i
theorem cloneI_at (h:1<=n){f:Bool}{l:List Int}(hl:l.length<2^20):call gl tab n 24 [.lst f .sc (ns l)] []=some (.sl 20000 [] 0 l.length,[],[.grow .sc (ns l)]):=by
 obtain⟨d,rfl⟩:=wB h
 rw[zf9 (fd:=fd24) rfl rfl]
 have h1:l.length<=LIM:=by unfold LIM;omega
 simp[zim,ns_length,h1,Sh.beq,Sh.beqs]
end
end Go.Proofs.S17.K
namespace Go.Proofs.S17.K
open Go Go.Ev Go.Proofs
section
variable {gl :Gl} {n:Nat} [Nonempty (H.GlK gl)]
end
end Go.Proofs.S17.K
namespace Go.Proofs.S17.K
open Go Go.Ev Go.Proofs
section
variable {gl :Gl} {n:Nat}
theorem first_fail (p:Nat->Prop)(N:Nat):(∀i,i<N->p i)\/∃k,k<N/\(∀j,j<k->p j)/\¬p k:=by
 classical
 by_cases h:∀i,i<N->p i
 . exact .inl h
 . obtain⟨h1,h2,h3⟩:=zhe p N
   refine .inr ⟨fstN p N,?_⟩
   rcases Nat.lt_or_ge (fstN p N) N with h4|h4
   . exact⟨h4,h2,h3 h4⟩
   . exact absurd (fun i hi=>h2 i (by omega)) h
def CO (a:Int)(l:List Int)(i:Nat):Prop:=0<=nat l i/\nat l i<=15/\nat l i<=a
structure VS (w s a:Int)(l:List Int):Prop where
 vp:isP w
 vw:w<=4096
 vs:1<=s/\s<=1048576
 va:0<=a/\a<s
 vn:(l.length:Int)=4*w
 vc:∀i,i<l.length->CO a l i
theorem isP_pos {w:Int}(h:isP w):1<=w:=by obtain⟨i,hi,rfl⟩:=h;exact(zvw hi).1
def L10 :MC:=match m27 with| .seq _ (.seq _ (.seq _ (.seq (.seq _ (.block _ (.loop _ b))) _)))=>b|_=>.skip
def S10 (w s a:Int)(f:Bool)(l:List Int)(i:Nat):St:=⟨[.set 4 (i64 i),.set 1 (.ptr 1 [])],[(1,.fix sK (.agg [i64 w,i64 s,i64 a,.lst f .sc (ns l)]))]⟩
set_option maxHeartbeats 4000000 in
theorem rvalid_at (h:3<=n){f:Bool}{w s a:Int}{l:List Int}(hl:l.length<2^20) :
  ∃b:Bool,(b=true↔VS w s a l)/\call gl tab n 27 [.agg [i64 w,i64 s,i64 a,.lst f .sc (ns l)]] []=some (.bool b,[],[]):=by
 obtain⟨d,rfl⟩:=wB h
 obtain⟨bp,hbp,c30⟩:=@rpower_at gl (d+2) (by omega) w
 rw[zah (fd:=fd27) rfl]
 cases bp with
 | false =>
   refine⟨false,⟨(fun h=>by cases h),fun h=>by have:=hbp.2 h.vp;cases this⟩,?_⟩
   simp(disch:=apply zq;omega) only[go_sem,simprocAttr,↓Nat.reduceEqDiff,xx,fd27,m27,c30]
 | true =>
 have hP:=hbp.1 rfl
 have hw1:=isP_pos hP
 by_cases h1:w<=4096
 case neg =>
  refine⟨false,⟨(fun h=>by cases h),fun h=>absurd h.vw h1⟩,?_⟩
  simp(disch:=apply zq;omega) only[go_sem,simprocAttr,↓Nat.reduceEqDiff,xx,fd27,m27,c30]
 by_cases h2:1<=s
 case neg =>
  refine⟨false,⟨(fun h=>by cases h),fun h=>absurd h.vs.1 h2⟩,?_⟩
  simp(disch:=apply zq;omega) only[go_sem,simprocAttr,↓Nat.reduceEqDiff,xx,fd27,m27,c30]
 by_cases h3:s<=1048576
 case neg =>
  refine⟨false,⟨(fun h=>by cases h),fun h=>absurd h.vs.2 h3⟩,?_⟩
  simp(disch:=apply zq;omega) only[go_sem,simprocAttr,↓Nat.reduceEqDiff,xx,fd27,m27,c30]
 by_cases h4:0<=a
 case neg =>
  refine⟨false,⟨(fun h=>by cases h),fun h=>absurd h.va.1 h4⟩,?_⟩
  simp(disch:=apply zq;omega) only[go_sem,simprocAttr,↓Nat.reduceEqDiff,xx,fd27,m27,c30]
 by_cases h5:a<s
 case neg =>
  refine⟨false,⟨(fun h=>by cases h),fun h=>absurd h.va.2 h5⟩,?_⟩
  simp(disch:=apply zq;omega) only[go_sem,simprocAttr,↓Nat.reduceEqDiff,xx,fd27,m27,c30]
 by_cases h6:(l.length:Int)=4*w
 case neg =>
  refine⟨false,⟨(fun h=>by cases h),fun h=>absurd h.vn h6⟩,?_⟩
  have h7:((l.length:Int) != 4*w)=true:=by rw[bne_iff_ne];exact h6
  simp(disch:=apply zq;omega) only[go_sem,simprocAttr,↓Nat.reduceEqDiff,xx,fd27,m27,c30,ns_length,h7]
 have h7:((l.length:Int) != 4*w)=false:=by rw[h6];simp
 have hs:∀i,i<l.length->CO a l i->zbp [.slot 1,.slot 4,.key 1] (evC gl (call gl tab (d+2)) L10 (S10 w s a f l i))=some (S10 w s a f l (i+1)):=fun i hi ⟨p1,p2,p3⟩=>by
  have hx:=ns_at hi
  simp(implicitDefEqProofs:=false) (disch:=apply zq;omega) only[go_sem,simprocAttr,↓Nat.reduceEqDiff,xx,L10,m27,S10,ns_length,hx]
 have hf:∀i,i<l.length->¬CO a l i->out1 2 (evC gl (call gl tab (d+2)) L10 (S10 w s a f l i))=some (.ret,.bool false):=fun i hi hp=>by
  have hx:=ns_at hi
  by_cases g1:0<=nat l i
  case neg=>simp(implicitDefEqProofs:=false) (disch:=apply zq;omega) only[go_sem,simprocAttr,↓Nat.reduceEqDiff,xx,L10,m27,S10,ns_length,hx]
  by_cases g2:nat l i<=15
  case neg=>simp(implicitDefEqProofs:=false) (disch:=apply zq;omega) only[go_sem,simprocAttr,↓Nat.reduceEqDiff,xx,L10,m27,S10,ns_length,hx]
  have g3:¬nat l i<=a:=fun h=>hp ⟨g1,g2,h⟩
  simp(implicitDefEqProofs:=false) (disch:=apply zq;omega) only[go_sem,simprocAttr,↓Nat.reduceEqDiff,xx,L10,m27,S10,ns_length,hx]
 rcases first_fail (CO a l) l.length with ha|⟨k,hk,hb',he⟩
 . refine⟨true,⟨fun _=>⟨hP,h1,⟨h2,h3⟩,⟨h4,h5⟩,h6,ha⟩,fun _=>rfl⟩,?_⟩
   have hs2:=fun i hi=>hs i hi (ha i hi)
   simp only[L10,m27]at hs2
   simp(disch:=apply zq;omega) only[go_sem,simprocAttr,↓Nat.reduceEqDiff,xx,fd27,m27,c30,ns_length,h7]
   rw[zao (S10 w s a f l) l.length (by unfold LF;omega)]
   . simp(disch:=apply zq;omega) only[go_sem,simprocAttr,↓Nat.reduceEqDiff,xx,S10,ns_length]
   . simp(disch:=apply zq;omega) only[go_sem,simprocAttr,↓Nat.reduceEqDiff,xx,S10]
   . exact hs2
   . simp(disch:=apply zq;omega) only[go_sem,simprocAttr,↓Nat.reduceEqDiff,xx,S10,ns_length]
 . obtain⟨st,hst,hg⟩:=zcv (hf k hk he)
   have hs2:=fun i (hi:i<k)=>hs i (by omega) (hb' i hi)
   simp only[L10,m27]at hs2 hst
   refine⟨false,⟨(fun h=>by cases h),fun h=>absurd (h.vc k hk) he⟩,?_⟩
   simp(disch:=apply zq;omega) only[go_sem,simprocAttr,↓Nat.reduceEqDiff,xx,fd27,m27,c30,ns_length,h7]
   rw[zao (S10 w s a f l) k (by unfold LF;omega),hst]
   . simp(disch:=apply zq;omega) only[go_sem,simprocAttr,↓Nat.reduceEqDiff,xx,hg]
   . simp(disch:=apply zq;omega) only[go_sem,simprocAttr,↓Nat.reduceEqDiff,xx,S10]
   . exact hs2
   . rw[hst];rfl
end
end Go.Proofs.S17.K
namespace Go.Proofs.S17.K
open Go Go.Ev Go.Proofs
set_option maxRecDepth 100000
section
variable {gl :Gl} {n:Nat}
theorem z80 (k:Nat):(List.replicate k (0:Int)).length=k:=List.length_replicate
end
end Go.Proofs.S17.K
