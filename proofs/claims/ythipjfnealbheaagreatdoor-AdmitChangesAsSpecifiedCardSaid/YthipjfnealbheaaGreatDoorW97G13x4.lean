/-
  Chapter 8: valid sketches, as specified. No condition.
-/
import Derived.Test.YthipjfnealbheaaGreatDoorW97G10x4
import Derived.Test.YthipjfnealbheaaGreatDoorW97G12x4
import Derived.KernelRfl
import Derived.Test.YthipjfnealbheaaGreatDoorW97G11x4
set_option linter.all false
open Nat renaming exists_eq_add_of_le'->wB,mul_le_mul_right->wC,mod_lt->wD
namespace Go.Proofs.S97.K
open Go Go.Ev Go.Proofs
section
variable {gl :Gl} {n:Nat}
theorem first_fail (p:Nat->Prop)(N:Nat):(∀i,i<N->p i)\/∃k,k<N/\(∀j,j<k->p j)/\¬p k:=by
 classical
 by_cases h:∀i,i<N->p i
 . exact .inl h
 . obtain⟨h1,h2,h3⟩:=zgi p N
   refine .inr ⟨fstN p N,?_⟩
   rcases Nat.lt_or_ge (fstN p N) N with h4|h4
   . exact⟨h4,h2,h3 h4⟩
   . exact absurd (fun i hi=>h2 i (by omega)) h
def CO (a:Int)(l:List Int)(i:Nat):Prop:=0<=nat l i/\nat l i<=15/\nat l i<=a
structure VS (w s a:Int)(l:List Int):Prop where
 vp:isP w
 vw:w<=4096
 vs:1<=s/\s<=1048576
 va:0<=a/\a<s
 vn:(l.length:Int)=4*w
 vc:∀i,i<l.length->CO a l i
theorem isP_pos {w:Int}(h:isP w):1<=w:=by obtain⟨i,hi,rfl⟩:=h;exact(zxb hi).1
def L10 :MC:=match m35 with| .seq _ (.seq _ (.seq _ (.seq (.seq _ (.block _ (.loop _ b))) _)))=>b|_=>.skip
def S10 (w s a:Int)(f:Bool)(l:List Int)(i:Nat):St:=⟨[.set 4 (i64 i),.set 1 (.ptr 1 [])],[(1,.fix sK (.agg [i64 w,i64 s,i64 a,.lst f .sc (ns l)]))]⟩
set_option maxHeartbeats 4000000 in
theorem rvalid_at (h:3<=n){f:Bool}{w s a:Int}{l:List Int}(hl:l.length<2^20) :
  ∃b:Bool,(b=true↔VS w s a l)/\call gl tab n 35 [.agg [i64 w,i64 s,i64 a,.lst f .sc (ns l)]] []=some (.bool b,[],[]):=by
 obtain⟨d,rfl⟩:=wB h
 obtain⟨bp,hbp,c30⟩:=@rpower_at gl (d+2) (by omega) w
 rw[zaf (fd:=fd35) rfl]
 cases bp with
 | false =>
   refine⟨false,⟨(fun h=>by cases h),fun h=>by have:=hbp.2 h.vp;cases this⟩,?_⟩
   simp(disch:=apply zq;omega) only[go_sem,simprocAttr,↓Nat.reduceEqDiff,xx,fd35,m35,c30]
 | true =>
 have hP:=hbp.1 rfl
 have hw1:=isP_pos hP
 by_cases h1:w<=4096
 case neg =>
  refine⟨false,⟨(fun h=>by cases h),fun h=>absurd h.vw h1⟩,?_⟩
  simp(disch:=apply zq;omega) only[go_sem,simprocAttr,↓Nat.reduceEqDiff,xx,fd35,m35,c30]
 by_cases h2:1<=s
 case neg =>
  refine⟨false,⟨(fun h=>by cases h),fun h=>absurd h.vs.1 h2⟩,?_⟩
  simp(disch:=apply zq;omega) only[go_sem,simprocAttr,↓Nat.reduceEqDiff,xx,fd35,m35,c30]
 by_cases h3:s<=1048576
 case neg =>
  refine⟨false,⟨(fun h=>by cases h),fun h=>absurd h.vs.2 h3⟩,?_⟩
  simp(disch:=apply zq;omega) only[go_sem,simprocAttr,↓Nat.reduceEqDiff,xx,fd35,m35,c30]
 by_cases h4:0<=a
 case neg =>
  refine⟨false,⟨(fun h=>by cases h),fun h=>absurd h.va.1 h4⟩,?_⟩
  simp(disch:=apply zq;omega) only[go_sem,simprocAttr,↓Nat.reduceEqDiff,xx,fd35,m35,c30]
 by_cases h5:a<s
 case neg =>
  refine⟨false,⟨(fun h=>by cases h),fun h=>absurd h.va.2 h5⟩,?_⟩
  simp(disch:=apply zq;omega) only[go_sem,simprocAttr,↓Nat.reduceEqDiff,xx,fd35,m35,c30]
 by_cases h6:(l.length:Int)=4*w
 case neg =>
  refine⟨false,⟨(fun h=>by cases h),fun h=>absurd h.vn h6⟩,?_⟩
  have h7:((l.length:Int) != 4*w)=true:=by rw[bne_iff_ne];exact h6
  simp(disch:=apply zq;omega) only[go_sem,simprocAttr,↓Nat.reduceEqDiff,xx,fd35,m35,c30,ns_length,h7]
 have h7:((l.length:Int) != 4*w)=false:=by rw[h6];simp
 have hs:∀i,i<l.length->CO a l i->zba [.slot 1,.slot 4,.key 1] (evC gl (call gl tab (d+2)) L10 (S10 w s a f l i))=some (S10 w s a f l (i+1)):=fun i hi ⟨p1,p2,p3⟩=>by
  have hx:=ns_at hi
  simp(implicitDefEqProofs:=false) (disch:=apply zq;omega) only[go_sem,simprocAttr,↓Nat.reduceEqDiff,xx,L10,m35,S10,ns_length,hx]
 have hf:∀i,i<l.length->¬CO a l i->out1 2 (evC gl (call gl tab (d+2)) L10 (S10 w s a f l i))=some (.ret,.bool false):=fun i hi hp=>by
  have hx:=ns_at hi
  by_cases g1:0<=nat l i
  case neg=>simp(implicitDefEqProofs:=false) (disch:=apply zq;omega) only[go_sem,simprocAttr,↓Nat.reduceEqDiff,xx,L10,m35,S10,ns_length,hx]
  by_cases g2:nat l i<=15
  case neg=>simp(implicitDefEqProofs:=false) (disch:=apply zq;omega) only[go_sem,simprocAttr,↓Nat.reduceEqDiff,xx,L10,m35,S10,ns_length,hx]
  have g3:¬nat l i<=a:=fun h=>hp ⟨g1,g2,h⟩
  simp(implicitDefEqProofs:=false) (disch:=apply zq;omega) only[go_sem,simprocAttr,↓Nat.reduceEqDiff,xx,L10,m35,S10,ns_length,hx]
 rcases first_fail (CO a l) l.length with ha|⟨k,hk,hb',he⟩
 . refine⟨true,⟨fun _=>⟨hP,h1,⟨h2,h3⟩,⟨h4,h5⟩,h6,ha⟩,fun _=>rfl⟩,?_⟩
   have hs2:=fun i hi=>hs i hi (ha i hi)
   simp only[L10,m35]at hs2
   simp(disch:=apply zq;omega) only[go_sem,simprocAttr,↓Nat.reduceEqDiff,xx,fd35,m35,c30,ns_length,h7]
   rw[zaj (S10 w s a f l) l.length (by unfold LF;omega)]
   . simp(disch:=apply zq;omega) only[go_sem,simprocAttr,↓Nat.reduceEqDiff,xx,S10,ns_length]
   . simp(disch:=apply zq;omega) only[go_sem,simprocAttr,↓Nat.reduceEqDiff,xx,S10]
   . exact hs2
   . simp(disch:=apply zq;omega) only[go_sem,simprocAttr,↓Nat.reduceEqDiff,xx,S10,ns_length]
 . obtain⟨st,hst,hg⟩:=zcw (hf k hk he)
   have hs2:=fun i (hi:i<k)=>hs i (by omega) (hb' i hi)
   simp only[L10,m35]at hs2 hst
   refine⟨false,⟨(fun h=>by cases h),fun h=>absurd (h.vc k hk) he⟩,?_⟩
   simp(disch:=apply zq;omega) only[go_sem,simprocAttr,↓Nat.reduceEqDiff,xx,fd35,m35,c30,ns_length,h7]
   rw[zaj (S10 w s a f l) k (by unfold LF;omega),hst]
   . simp(disch:=apply zq;omega) only[go_sem,simprocAttr,↓Nat.reduceEqDiff,xx,hg]
   . simp(disch:=apply zq;omega) only[go_sem,simprocAttr,↓Nat.reduceEqDiff,xx,S10]
   . exact hs2
   . rw[hst];rfl
end
theorem VS.sk {w:Nat}{s a:Int}{l:List Int}(h:VS w s a l):Sk w s a l :=
 ⟨⟨by have:=isP_pos h.vp;omega,by have:=h.vw;omega⟩,h.vs,h.va,by have:=h.vn;omega,fun i hi=>⟨(h.vc i hi).1,(h.vc i hi).2.1⟩⟩
end Go.Proofs.S97.K
namespace Go.Proofs.S97.K
open Go Go.Ev Go.Proofs
set_option maxRecDepth 100000
section
variable {gl :Gl} {n:Nat}
theorem qbk (k:Nat):(List.replicate k (0:Int)).length=k:=List.length_replicate
end
end Go.Proofs.S97.K
namespace Go.Proofs.S97.K
open Go Go.Ev Go.Proofs
section
variable {gl :Gl} {n:Nat}
end
theorem nat_rep {k i:Nat}(h:i<k)(c:Int):nat (List.replicate k c) i=c:=by simp[nat,h]
theorem lea_zero {w:Nat}{key:List UInt8}(hw:1<=w):lea (List.replicate (4*w) 0) (pl key w) 4=0:=by
 simp only[lea,nat_rep (zlu (key:=key) hw (show 0<4 by decide)),nat_rep (zlu (key:=key) hw (show 1<4 by decide)),nat_rep (zlu (key:=key) hw (show 2<4 by decide)),nat_rep (zlu (key:=key) hw (show 3<4 by decide))]
 decide
end Go.Proofs.S97.K
namespace Go.Proofs.S97.K
open Go Go.Ev Go.Proofs
variable {gl :Gl} {n:Nat}
abbrev cpS (w s a:Int)(f:Bool)(l:List Int):AV:=.cp (.st [.sc,.sc,.sc,.sc]) (.agg [i64 w,i64 s,i64 a,.lst f .sc (ns l)])
theorem qiv (h:1<=n){w s a:Int}{f:Bool}{l:List Int}{x:Int}(hx:0<=x/\x<=15/\x<=a):call gl tab n 76 [i64 x,cpS w s a f l] []=some (.bool false,[],[]):=by
 obtain⟨d,rfl⟩:=wB h
 rw[zaf (fd:=fd76) rfl]
 simp(disch:=apply zq;omega) only[go_sem,simprocAttr,↓Nat.reduceEqDiff,xx,fd76,m76]
theorem qef (h:1<=n){w s a:Int}{f:Bool}{l:List Int}{x:Int}(hx:¬(0<=x/\x<=15/\x<=a)):call gl tab n 76 [i64 x,cpS w s a f l] []=some (.bool true,[],[]):=by
 obtain⟨d,rfl⟩:=wB h
 rw[zaf (fd:=fd76) rfl]
 by_cases g1:0<=x
 case neg=>simp(disch:=apply zq;omega) only[go_sem,simprocAttr,↓Nat.reduceEqDiff,xx,fd76,m76]
 by_cases g2:x<=15
 case neg=>simp(disch:=apply zq;omega) only[go_sem,simprocAttr,↓Nat.reduceEqDiff,xx,fd76,m76]
 simp(disch:=apply zq;omega) only[go_sem,simprocAttr,↓Nat.reduceEqDiff,xx,fd76,m76]
def L45 :MC:=match m96 with| .seq _ (.seq (.seq _ (.block _ (.loop _ b))) _)=>b|_=>.skip
def S45 (w s a:Int)(f:Bool)(l:List Int)(i:Nat):St:=⟨[.set 8 (i64 i),.set 7 (i64 l.length),.set 1 (.fn 76 [cpS w s a f l]),.set 0 (.lst f .sc (ns l))],[]⟩
theorem z6p (h:2<=n){w s a:Int}{f:Bool}{l:List Int}(hl:l.length<2^20) :
  ∃b:Bool,(b=true↔∀i,i<l.length->CO a l i)/\∃k:Int,(b=true->k=-1)/\(b=false->0<=k/\k<=1048576)/\call gl tab n 96 [.lst f .sc (ns l),.fn 76 [cpS w s a f l]] []=some (i64 k,[],[]):=by
 obtain⟨d,rfl⟩:=wB h
 have hs:∀i,i<l.length->CO a l i->zba [.slot 0,.slot 1,.slot 7,.slot 8] (evC gl (call gl tab (d+1)) L45 (S45 w s a f l i))=some (S45 w s a f l (i+1)):=fun i hi hp=>by
  have hx:=ns_at hi
  have c:=@qiv gl (d+1) (by omega) w s a f l (nat l i) hp
  simp(disch:=apply zq;omega) only[go_sem,simprocAttr,↓Nat.reduceEqDiff,xx,L45,m96,S45,ns_length,hx,c]
 have hf:∀i,i<l.length->¬CO a l i->out1 4 (evC gl (call gl tab (d+1)) L45 (S45 w s a f l i))=some (.ret,i64 i):=fun i hi hp=>by
  have hx:=ns_at hi
  have c:=@qef gl (d+1) (by omega) w s a f l (nat l i) hp
  simp(disch:=apply zq;omega) only[go_sem,simprocAttr,↓Nat.reduceEqDiff,xx,L45,m96,S45,ns_length,hx,c]
 rw[zaf (fd:=fd96) rfl]
 rcases first_fail (CO a l) l.length with ha|⟨k,hk,hb',he⟩
 . refine⟨true,⟨fun _=>ha,fun _=>rfl⟩,-1,fun _=>rfl,(fun h=>by cases h),?_⟩
   have hs2:=fun i hi=>hs i hi (ha i hi)
   simp only[L45,m96]at hs2
   simp(disch:=apply zq;omega) only[go_sem,simprocAttr,↓Nat.reduceEqDiff,xx,fd96,m96,ns_length]
   rw[zaj (S45 w s a f l) l.length (by unfold LF;omega)]
   . simp(disch:=apply zq;omega) only[go_sem,simprocAttr,↓Nat.reduceEqDiff,xx,S45,ns_length]
   . simp(disch:=apply zq;omega) only[go_sem,simprocAttr,↓Nat.reduceEqDiff,xx,S45,ns_length]
   . exact hs2
   . simp(disch:=apply zq;omega) only[go_sem,simprocAttr,↓Nat.reduceEqDiff,xx,S45,ns_length]
 . obtain⟨st,hst,hg⟩:=zcw (hf k hk he)
   have hs2:=fun i (hi:i<k)=>hs i (by omega) (hb' i hi)
   simp only[L45,m96]at hs2 hst
   refine⟨false,⟨(fun h=>by cases h),fun h=>absurd (h k hk) he⟩,k,(fun h=>by cases h),fun _=>by omega,?_⟩
   simp(disch:=apply zq;omega) only[go_sem,simprocAttr,↓Nat.reduceEqDiff,xx,fd96,m96,ns_length]
   rw[zaj (S45 w s a f l) k (by unfold LF;omega),hst]
   . simp(disch:=apply zq;omega) only[go_sem,simprocAttr,↓Nat.reduceEqDiff,xx,hg]
   . simp(disch:=apply zq;omega) only[go_sem,simprocAttr,↓Nat.reduceEqDiff,xx,S45,ns_length]
   . exact hs2
   . rw[hst];rfl
theorem qdy (h:3<=n){w s a:Int}{f:Bool}{l:List Int}(hl:l.length<2^20) :
  ∃b:Bool,(b=true↔∀i,i<l.length->CO a l i)/\call gl tab n 75 [.lst f .sc (ns l),.fn 76 [cpS w s a f l]] []=some (.bool (!b),[],[]):=by
 obtain⟨d,rfl⟩:=wB h
 obtain⟨b,hb,k,h1,h2,c⟩:=@z6p gl (d+2) (by omega) w s a f l hl
 refine⟨b,hb,?_⟩
 rw[zaf (fd:=fd75) rfl]
 cases b with
 | true =>
   have:=h1 rfl
   simp(disch:=apply zq;omega) only[go_sem,simprocAttr,↓Nat.reduceEqDiff,xx,fd75,m75,c]
 | false =>
   have:=h2 rfl
   simp(disch:=apply zq;omega) only[go_sem,simprocAttr,↓Nat.reduceEqDiff,xx,fd75,m75,c]
set_option maxHeartbeats 4000000 in
theorem valid_at (h:6<=n){f:Bool}{w s a:Int}{l:List Int}(hl:l.length<2^20)(hw:w<=9223372036854775807) :
  ∃b:Bool,(b=true↔VS w s a l)/\call gl tab n 48 [.agg [i64 w,i64 s,i64 a,.lst f .sc (ns l)]] []=some (.bool b,[],[]):=by
 obtain⟨d,rfl⟩:=wB h
 obtain⟨bp,hbp,c30⟩:=@z5v gl (d+5) (by omega) w hw
 rw[zaf (fd:=fd48) rfl]
 cases bp with
 | false =>
   refine⟨false,⟨(fun h=>by cases h),fun h=>by have:=hbp.2 h.vp;cases this⟩,?_⟩
   simp(disch:=apply zq;omega) only[go_sem,simprocAttr,↓Nat.reduceEqDiff,xx,fd48,m48,c30]
 | true =>
 have hP:=hbp.1 rfl
 have hw1:=isP_pos hP
 by_cases h1:w<=4096
 case neg =>
  refine⟨false,⟨(fun h=>by cases h),fun h=>absurd h.vw h1⟩,?_⟩
  simp(disch:=apply zq;omega) only[go_sem,simprocAttr,↓Nat.reduceEqDiff,xx,fd48,m48,c30]
 by_cases h2:1<=s
 case neg =>
  refine⟨false,⟨(fun h=>by cases h),fun h=>absurd h.vs.1 h2⟩,?_⟩
  simp(disch:=apply zq;omega) only[go_sem,simprocAttr,↓Nat.reduceEqDiff,xx,fd48,m48,c30]
 by_cases h3:s<=1048576
 case neg =>
  refine⟨false,⟨(fun h=>by cases h),fun h=>absurd h.vs.2 h3⟩,?_⟩
  simp(disch:=apply zq;omega) only[go_sem,simprocAttr,↓Nat.reduceEqDiff,xx,fd48,m48,c30]
 by_cases h4:0<=a
 case neg =>
  refine⟨false,⟨(fun h=>by cases h),fun h=>absurd h.va.1 h4⟩,?_⟩
  simp(disch:=apply zq;omega) only[go_sem,simprocAttr,↓Nat.reduceEqDiff,xx,fd48,m48,c30]
 by_cases h5:a<s
 case neg =>
  refine⟨false,⟨(fun h=>by cases h),fun h=>absurd h.va.2 h5⟩,?_⟩
  simp(disch:=apply zq;omega) only[go_sem,simprocAttr,↓Nat.reduceEqDiff,xx,fd48,m48,c30]
 by_cases h6:(l.length:Int)=4*w
 case neg =>
  refine⟨false,⟨(fun h=>by cases h),fun h=>absurd h.vn h6⟩,?_⟩
  have h7:((l.length:Int) != 4*w)=true:=by rw[bne_iff_ne];exact h6
  simp(disch:=apply zq;omega) only[go_sem,simprocAttr,↓Nat.reduceEqDiff,xx,fd48,m48,c30,ns_length,h7]
 have h7:((l.length:Int) != 4*w)=false:=by rw[h6];simp
 obtain⟨b,hb,c39⟩:=@qdy gl (d+5) (by omega) w s a f l hl
 refine⟨b,⟨fun h=>⟨hP,h1,⟨h2,h3⟩,⟨h4,h5⟩,h6,hb.1 h⟩,fun h=>hb.2 h.vc⟩,?_⟩
 simp(disch:=apply zq;omega) only[go_sem,simprocAttr,↓Nat.reduceEqDiff,xx,fd48,m48,c30,ns_length,h7,c39,Bool.not_not]
theorem rnew_ok (h:2<=n){w:Nat}{s:Int}(hw:1<=w/\w<=4096)(hs:1<=s/\s<=1048576)(c30:call gl tab (n-1) 50 [i64 w] []=some (.bool true,[],[])) :
  call gl tab n 19 [i64 w,i64 s] []=some (.agg [.agg [i64 w,i64 s,i64 0,.lst false .sc (ns (List.replicate (4*w) 0))],i64 0],[],[]):=by
 obtain⟨d,rfl⟩:=wB h
 rw[show d+2-1=d+1 from rfl]at c30
 have hr:=ns_rep (4*w)
 have hL:4*w<=LIM:=by unfold LIM;omega
 rw[zaf (fd:=fd19) rfl]
 have hz:(ns (List.replicate (4*w) 0)).length=4*w:=by rw[ns_length,qbk]
 have hft:List.take (4*w) (ns (List.replicate (4*w) 0))=ns (List.replicate (4*w) 0):=List.take_of_length_le (by omega)
 generalize ns (List.replicate (4*w) 0)=z at *
 simp(disch:=apply zq;omega) only[go_sem,simprocAttr,↓Nat.reduceEqDiff,xx,fd19,m19,c30,hr,hL,hz,hft]
end Go.Proofs.S97.K
namespace Go.Proofs.S97.K
open Go Go.Ev Go.Proofs
section
variable {gl :Gl} {n:Nat} [Nonempty (H.GlR gl)]
theorem qf8 {key:List UInt8}{w i j:Nat}(hw:1<=w)(hij:i<j):pl key w i≠pl key w j:=by
 have h1:=wD (plc key i) (show 0<w by omega)
 have h2:(i+1)*w<=j*w:=wC w (by omega)
 rw[Nat.add_mul]at h2
 unfold pl;omega
theorem zng {l:List Int}{k j:Nat}(h:k≠j)(v:Int):nat (l.set k v) j=nat l j:=by simp[nat,List.getD_eq_getElem?_getD,List.getElem?_set,h]
theorem zxi {l:List Int}{k:Nat}(h:k<l.length)(v:Int):nat (l.set k v) k=v:=by simp[nat,List.getD_eq_getElem?_getD,h]
theorem zp9 {l:List Int}{p:Nat->Nat}{c:Int}{k:Nat}:∀{i:Nat},(∀j,j<i->p j≠k)->nat (ad l p c i) k=nat l k
 | 0,_=>rfl
 | i+1,h=>by
   rw[ad];split
   . rw[zng (h i (by omega)),zp9 fun j hj=>h j (by omega)]
   . exact zp9 fun j hj=>h j (by omega)
def L14 :MC:=match m44 with| .seq _ (.seq _ (.seq _ (.seq (.seq _ (.block _ (.loop _ b))) _)))=>b|_=>.skip
def z4' :AV:=.agg [i64 0,i64 0,i64 0,.lst true .sc []]
def S14 (w:Nat)(s a:Int)(f:Bool)(l A:List Int)(c:Int)(key:List UInt8)(i:Nat):St :=
 ⟨[.set 7 (i64 i),.set 6 (.ptr 6 []),.set 5 (i64 c),.set 4 (.ptr 4 []),.set 2 (.ptr 2 []),.set 1 (.str key)],
  [(22,.grow .sc (ns A)),(6,.fix sK (.aggR [i64 w,i64 s,i64 (a+1),.sl 22 [] 0 l.length])),(4,.fix sK z4'),(2,.fix sK (.agg [i64 w,i64 s,i64 a,.lst f .sc (ns l)]))]⟩
set_option maxHeartbeats 2000000 in
theorem qfi (h:9<=n){key:List UInt8}(hk:key.length<=5000){w:Nat}{s a:Int}{f:Bool}{l:List Int}(hv:Sk w s a l){c:Int}(hc:0<=c/\c<=15){i:Nat}(hi:i<4) :
  zba [.slot 1,.slot 2,.slot 4,.slot 5,.slot 6,.slot 7,.key 2,.key 4,.key 6,.key 22] (evC gl (call gl tab n) L14 (S14 w s a f l (ad l (pl key w) c i) c key i))=some (S14 w s a f l (ad l (pl key w) c (i+1)) c key (i+1)):=by
 have hw:=hv.kw
 have hl:=hv.kl
 have hsa:=hv.ks
 have haa:=hv.ka
 have c29:=@zqo gl n _ (by omega) key hk i w hi hw
 have hm:=wD (plc key i) (show 0<w by omega)
 have hp:=zlu (key:=key) hw.1 hi
 have hx:=ns_at (show pl key w i<l.length by omega)
 have hlt:i*w<=3*w:=wC w (by omega)
 have e:pl key w i=i*w+plc key i%w:=rfl
 have hal:=zf3 l (pl key w) c i
 have ho:nat (ad l (pl key w) c i) (pl key w i)=nat l (pl key w i):=zp9 fun j hj=>qf8 hw.1 hj
 have e2:ad l (pl key w) c (i+1)=if nat l (pl key w i)=c/\c<15 then(ad l (pl key w) c i).set (pl key w i) (c+1)else ad l (pl key w) c i:=by rw[ad,ho]
 have hs:=ns_set (ad l (pl key w) c i) (pl key w i) (c+1)
 have hx2:=ns_at (show pl key w i<(ad l (pl key w) c i).length by omega)
 rw[S14,S14,e2]
 clear ho e2
 generalize ad l (pl key w) c i=A at *
 rw[e]at hx hp hs hx2 ⊢
 generalize plc key i%w=y at *
 generalize hz:i*w=z at *
 have hz2:(i:Int)*(w:Int)=(z:Int):=by rw[<-hz];exact(Int.natCast_mul i w).symm
 have hx3:=hx
 by_cases h1:nat l (z+y)=c
 . rw[h1]at hx
   by_cases h2:c<15
   . rw[if_pos ⟨h1,h2⟩,<-hs]
     simp(implicitDefEqProofs:=false) (disch:=apply zq;omega) only[go_sem,simprocAttr,↓Nat.reduceEqDiff,xx,L14,m44,c29,hx,hx2,hz2,ns_length,hal,z4',beq_self_eq_true]
   . rw[if_neg (fun h=>h2 h.2)]
     simp(implicitDefEqProofs:=false) (disch:=apply zq;omega) only[go_sem,simprocAttr,↓Nat.reduceEqDiff,xx,L14,m44,c29,hx,hx2,hz2,ns_length,hal,z4',beq_self_eq_true]
 . rw[if_neg (fun h=>h1 h.1)]
   have h3:(nat l (z+y)==c)=false:=by rw[beq_eq_false_iff_ne];exact h1
   simp(implicitDefEqProofs:=false) (disch:=apply zq;omega) only[go_sem,simprocAttr,↓Nat.reduceEqDiff,xx,L14,m44,c29,hx,hx2,hz2,ns_length,hal,z4',h3]
set_option maxHeartbeats 2000000 in
theorem radd_at (h:12<=n){key:List UInt8}(hk:key.length<=5000){w:Nat}{s a:Int}{f:Bool}{l:List Int}(hv:Sk w s a l) :
  call gl tab n 44 [.agg [i64 w,i64 s,i64 a,.lst f .sc (ns l)],.str key] []=some (.agg [i64 w,i64 s,i64 (addR w s a l key).1,.lst false .sc (ns (addR w s a l key).2)],[],[]):=by
 obtain⟨d,rfl⟩:=wB h
 have hl:=hv.kl
 have hw:=hv.kw
 have hsa:=hv.ks
 have haa:=hv.ka
 have hp:∀i,i<4->pl key w i<l.length:=fun i hi=>by rw[hl];exact zlu hw.1 hi
 have c26:=@z0l gl (d+11) _ (by omega) key hk w hw s a f l hl
 have hb:=zvf hv.kc hp 4 (Nat.le_refl 4)
 have hst:=fun i hi=>@qfi gl (d+11) _ (by omega) key hk w s a f l hv (lea l (pl key w) 4) hb i hi
 simp only[L14,m44]at hst
 have hcs:=z4i hv key
 have hal:=zhw w l key
 have c22:=@zw7 gl (d+11) (by omega) w s (a+1) (adL w l key) (by omega) (by omega) (by omega) hcs
 rw[hal]at c22
 have hft:=ns_take' (adL w l key)
 have hft0:=ns_take' l
 have hhl:=zci (adL w l key) l.length
 have hft2:=ns_take' (hlf (adL w l key) l.length)
 have hL:l.length<=LIM:=by unfold LIM;omega
 rw[hhl]at hft2
 rw[hal]at hft
 simp only[S97.K.hv]at c22
 unfold addR
 have e4:adL w l key=ad l (pl key w) (lea l (pl key w) 4) 4:=rfl
 have e0:ad l (pl key w) (lea l (pl key w) 4) 0=l:=rfl
 generalize hlf (adL w l key) l.length=H2 at *
 generalize adL w l key=A at *
 generalize lea l (pl key w) 4=c at *
 generalize ad l (pl key w) c=g at *
 rw[zaf (fd:=fd44) rfl]
 simp(disch:=apply zq;omega) only[go_sem,simprocAttr,↓Nat.reduceEqDiff,xx,fd44,m44,c26,ns_length,hL,List.nil_append,List.append_nil]
 rw[zaj (fun i=>S14 w s a f l (g i) c key i) 4 (by unfold LF;omega)]
 . rw[<-e4]
   by_cases h1:a+1=s
   . have h2:(a+1==s)=true:=by rw[h1];exact beq_self_eq_true s
     rw[if_pos h1]
     subst h1
     simp(disch:=apply zq;omega) only[go_sem,simprocAttr,↓Nat.reduceEqDiff,xx,S14,c22,ns_length,hal,hft,hft2,h2]
   . have h2:(a+1==s)=false:=by rw[beq_eq_false_iff_ne];exact h1
     rw[if_neg h1]
     simp(disch:=apply zq;omega) only[go_sem,simprocAttr,↓Nat.reduceEqDiff,xx,S14,ns_length,hal,hft,h2]
 . rw[e0];simp(disch:=apply zq;omega) only[go_sem,simprocAttr,↓Nat.reduceEqDiff,xx,S14,z4']
 . exact hst
 . simp(disch:=apply zq;omega) only[go_sem,simprocAttr,↓Nat.reduceEqDiff,xx,S14]
end
end Go.Proofs.S97.K
