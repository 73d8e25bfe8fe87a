/-
  The example's bank. No condition.
-/
import Derived.Test.YtaloneiaejhopaaDoorW50G18x3
import Derived.Test.YtaloneiaejhopaaDoorW50G26x3
import Derived.Test.YtaloneiaejhopaaDoorW50G21x3
import Derived.Test.YtaloneiaejhopaaDoorCards
import Derived.Test.YtaloneiaejhopaaDoorTie
import Derived.ProofKit
import Derived.OpenShut
import Derived.Deep.DeepHandedRow
import Derived.Lib.LaidTab
import Derived.MakeChecks
set_option linter.all false
open Nat renaming exists_eq_add_of_le'->wB
namespace Go.Proofs.S50
open Go Go.Ev Go.Proofs Go.Fl
variable {gl :Gl} {n:Nat}
theorem zra (h:1<=n){a lo hi:Int}(h1:lo<=a)(h2:a<=hi):call gl tab n 27 [i64 a,i64 lo,i64 hi] []=some (.bool true,[],[]):=by
 obtain⟨d,rfl⟩:=wB h
 rw[zai (fd:=fd27) rfl]
 simp(disch:=apply zq;omega) only[go_sem,simprocAttr,↓Nat.reduceEqDiff,xx,fd27,m27]
abbrev bk (l:List AV)(f:Bool)(sh:Sh):AV:=.agg [i64 2,i64 1000,.lst f sh l]
abbrev row1 :AV:=.agg [i64 5,i64 10,i64 2,i64 0]
abbrev bkA :AV:=bk [] true .sc
abbrev bkB :AV:=bk [row1] false yA4
def L24 :MC:=match m24 with| .seq _ (.seq _ (.seq _ (.seq (.seq _ (.block _ (.loop _ b))) _)))=>b|_=>.skip
abbrev K24 :List Kp:=[.slot 1,.slot 3,.slot 24,.slot 25,.key 1]
def S24 (x:AV)(N i:Nat):St:=⟨[.set 25 (i64 (i:Int)),.set 24 (i64 (N:Int)),.set 3 (i64 (if i=0 then 0 else 2)),.set 1 (.ptr 1 [])],[(1,.fix yA3 x)]⟩
theorem fs (d:Nat):(∀a lo hi,lo<=a->a<=hi->call gl tab (d+3) 27 [i64 a,i64 lo,i64 hi] []=some (.bool true,[],[]))/\call gl tab (d+3) 25 [i64 5] []=some (.bool true,[],[])/\call gl tab (d+3) 26 [i64 10] []=some (.bool true,[],[]):=by
 have c:=fun a lo hi (h1:lo<=a) (h2:a<=hi)=>@zra gl (d+2) (by omega) a lo hi h1 h2
 refine⟨fun a lo hi h1 h2=>zra (by omega) h1 h2,?_,?_⟩
 . rw[zai (fd:=fd25) rfl]
   simp(disch:=apply zq;omega) only[go_sem,simprocAttr,↓Nat.reduceEqDiff,xx,fd25,m25,c]
 . rw[zai (fd:=fd26) rfl]
   simp(disch:=apply zq;omega) only[go_sem,simprocAttr,↓Nat.reduceEqDiff,xx,fd26,m26,c]
section
variable (h :4<=n)
include h
theorem vbA :call gl tab n 24 [bkA] []=some (.bool true,[],[]):=by
 obtain⟨d,rfl⟩:=wB h
 obtain⟨c,_,_⟩:=@fs gl d
 rw[zai (fd:=fd24) rfl]
 simp(disch:=apply zq;omega) only[go_sem,simprocAttr,↓Nat.reduceEqDiff,xx,fd24,m24,c]
 rw[zak (S24 bkA 0) 0 (by unfold LF;omega)]
 . simp(disch:=apply zq;omega) only[go_sem,simprocAttr,↓Nat.reduceEqDiff,xx,S24]
 . simp(disch:=apply zq;omega) only[go_sem,simprocAttr,↓Nat.reduceEqDiff,xx,S24]
 . intro i hi;omega
 . simp(disch:=apply zq;omega) only[go_sem,simprocAttr,↓Nat.reduceEqDiff,xx,S24]
theorem vbB :call gl tab n 24 [bkB] []=some (.bool true,[],[]):=by
 obtain⟨d,rfl⟩:=wB h
 obtain⟨c,c2,c3⟩:=@fs gl d
 have hs:∀i,i<1->zaz K24 (evC gl (call gl tab (d+3)) L24 (S24 bkB 1 i))=some (S24 bkB 1 (i+1)):=fun i hi=>by
  obtain rfl:i=0:=by omega
  simp(disch:=apply zq;omega) only[go_sem,simprocAttr,↓Nat.reduceEqDiff,xx,L24,m24,S24,c,c2,c3]
 simp only[L24,m24]at hs
 rw[zai (fd:=fd24) rfl]
 simp(disch:=apply zq;omega) only[go_sem,simprocAttr,↓Nat.reduceEqDiff,xx,fd24,m24,c]
 rw[zak (S24 bkB 1) 1 (by unfold LF;omega)]
 . simp(disch:=apply zq;omega) only[go_sem,simprocAttr,↓Nat.reduceEqDiff,xx,S24]
 . simp(disch:=apply zq;omega) only[go_sem,simprocAttr,↓Nat.reduceEqDiff,xx,S24]
 . exact hs
 . simp(disch:=apply zq;omega) only[go_sem,simprocAttr,↓Nat.reduceEqDiff,xx,S24]
end
abbrev kyR :AV:=.agg [i64 5,i64 10,i64 0,i64 0]
def S56 (i:Nat):St:=⟨[.set 8 (i64 (i:Int)),.set 7 (i64 2),.set 6 (.lst false .sc [i64 0,i64 0]),.set 3 (i64 0)],[]⟩
theorem by0 (h:3<=n):call gl tab n 29 [row1,kyR] []=some (i64 0,[],[]):=by
 obtain⟨d,rfl⟩:=wB h
 have c74:∀a,call gl tab (d+1) 74 [i64 a] []=some (.bool false,[],[]):=fun a=>by
  rw[zai (fd:=fd74) rfl]
  simp(disch:=apply zq;omega) only[go_sem,simprocAttr,↓Nat.reduceEqDiff,xx,fd74,m74]
 have c57:∀a,call gl tab (d+2) 57 [i64 a,i64 a] []=some (i64 0,[],[]):=fun a=>by
  rw[zai (fd:=fd57) rfl]
  simp(disch:=apply zq;omega) only[go_sem,simprocAttr,↓Nat.reduceEqDiff,xx,fd57,m57,c74]
 have c56:call gl tab (d+2) 56 [.lst false .sc [i64 0,i64 0]] []=some (i64 0,[],[]):=by
  rw[zai (fd:=fd56) rfl]
  simp(disch:=apply zq;omega) only[go_sem,simprocAttr,↓Nat.reduceEqDiff,xx,fd56,m56]
  rw[zak S56 2 (by unfold LF;omega)]
  . simp(disch:=apply zq;omega) only[go_sem,simprocAttr,↓Nat.reduceEqDiff,xx,S56]
  . simp(disch:=apply zq;omega) only[go_sem,simprocAttr,↓Nat.reduceEqDiff,xx,S56]
  . intro i hi
    match i,hi with
    | 0,_=>simp(disch:=apply zq;omega) only[go_sem,simprocAttr,↓Nat.reduceEqDiff,xx,S56]
    | 1,_=>simp(disch:=apply zq;omega) only[go_sem,simprocAttr,↓Nat.reduceEqDiff,xx,S56]
  . simp(disch:=apply zq;omega) only[go_sem,simprocAttr,↓Nat.reduceEqDiff,xx,S56]
 rw[zai (fd:=fd29) rfl]
 simp(disch:=apply zq;omega) only[go_sem,simprocAttr,↓Nat.reduceEqDiff,xx,fd29,m29,c57,c56]
def S55 (x:AV)(N j:Nat):St:=⟨[.set 10 (i64 (j:Int)),.set 9 (i64 0),.set 8 (i64 (N:Int)),.set 4 (.ptr 4 []),.set 2 (.fn 29 []),.set 0 x],[(4,.fix yA4 kyR)]⟩
theorem seA (h:4<=n):call gl tab n 55 [.lst true .sc [],kyR,.fn 29 []] []=some (.tup [i64 0,.bool false],[],[]):=by
 obtain⟨d,rfl⟩:=wB h
 rw[zai (fd:=fd55) rfl]
 simp(disch:=apply zq;omega) only[go_sem,simprocAttr,↓Nat.reduceEqDiff,xx,fd55,m55]
 rw[zak (fun _=>S55 (.lst true .sc []) 0 0) 0 (by unfold LF;omega)]
 . simp(disch:=apply zq;omega) only[go_sem,simprocAttr,↓Nat.reduceEqDiff,xx,S55]
 . simp(disch:=apply zq;omega) only[go_sem,simprocAttr,↓Nat.reduceEqDiff,xx,S55]
 . intro i hi;omega
 . simp(disch:=apply zq;omega) only[go_sem,simprocAttr,↓Nat.reduceEqDiff,xx,S55]
theorem seB (h:4<=n):call gl tab n 55 [.lst false yA4 [row1],kyR,.fn 29 []] []=some (.tup [i64 0,.bool true],[],[]):=by
 obtain⟨d,rfl⟩:=wB h
 have c29:=@by0 gl (d+3) (by omega)
 have hm:zbw .shr .u64 1 1=some (.int .u64 0):=by kernel_rfl
 rw[zai (fd:=fd55) rfl]
 simp(disch:=apply zq;omega) only[go_sem,simprocAttr,↓Nat.reduceEqDiff,xx,fd55,m55]
 rw[zak (fun i=>S55 (.lst false yA4 [row1]) 1 (1-i)) 1 (by unfold LF;omega)]
 . simp(disch:=apply zq;omega) only[go_sem,simprocAttr,↓Nat.reduceEqDiff,xx,S55,c29]
 . simp(disch:=apply zq;omega) only[go_sem,simprocAttr,↓Nat.reduceEqDiff,xx,S55]
 . intro i hi
   obtain rfl:i=0:=by omega
   simp(disch:=apply zq;omega) only[go_sem,simprocAttr,↓Nat.reduceEqDiff,xx,S55,c29,hm]
 . simp(disch:=apply zq;omega) only[go_sem,simprocAttr,↓Nat.reduceEqDiff,xx,S55]
theorem z9e (h:6<=n):call gl tab n 11 [i64 2,i64 1000] []=some (.tup [bkA,i64 0],[],[]):=by
 obtain⟨d,rfl⟩:=wB h
 have c:=@vbA gl (d+5) (by omega)
 rw[zai (fd:=fd11) rfl]
 simp(disch:=apply zq;omega) only[go_sem,simprocAttr,↓Nat.reduceEqDiff,xx,fd11,m11,c]
theorem zz0 (h:7<=n):call gl tab n 15 [bkB,i64 5,i64 10] []=some (i64 2,[],[]):=by
 obtain⟨d,rfl⟩:=wB h
 have c:=@vbB gl (d+6) (by omega)
 have c55:=@seB gl (d+5) (by omega)
 have c28:call gl tab (d+6) 28 [.lst false yA4 [row1],kyR,.fn 29 []] []=some (.tup [row1,.bool true],[],[]):=by
  rw[zai (fd:=fd28) rfl]
  simp(disch:=apply zq;omega) only[go_sem,simprocAttr,↓Nat.reduceEqDiff,xx,fd28,m28,c55]
 rw[zai (fd:=fd15) rfl]
 simp(disch:=apply zq;omega) only[go_sem,simprocAttr,↓Nat.reduceEqDiff,xx,fd15,m15,c,c28]
def S30 (i:Nat):St:=⟨[.set 14 (i64 0),.set 13 (i64 0),.set 12 (.lst true .sc []),.set 5 (i64 0),.set 1 (i64 5)],[]⟩
theorem z5g (h:7<=n):call gl tab n 12 [bkA,i64 5,i64 10,i64 2] []=some (.tup [bkB,i64 0],[],[]):=by
 obtain⟨d,rfl⟩:=wB h
 have c:=@vbA gl (d+6) (by omega)
 obtain⟨c27,c25,c26⟩:=@fs gl (d+3)
 have c55:=@seA gl (d+5) (by omega)
 have c28:call gl tab (d+6) 28 [.lst true .sc [],kyR,.fn 29 []] []=some (.tup [kyR,.bool false],[],[]):=by
  rw[zai (fd:=fd28) rfl]
  simp(disch:=apply zq;omega) only[go_sem,simprocAttr,↓Nat.reduceEqDiff,xx,fd28,m28,c55]
 have c30:call gl tab (d+6) 30 [bkA,i64 5] []=some (i64 0,[],[]):=by
  have c':=@vbA gl (d+5) (by omega)
  rw[zai (fd:=fd30) rfl]
  simp(disch:=apply zq;omega) only[go_sem,simprocAttr,↓Nat.reduceEqDiff,xx,fd30,m30,c']
  rw[zak S30 0 (by unfold LF;omega)]
  . simp(disch:=apply zq;omega) only[go_sem,simprocAttr,↓Nat.reduceEqDiff,xx,S30]
  . simp(disch:=apply zq;omega) only[go_sem,simprocAttr,↓Nat.reduceEqDiff,xx,S30]
  . intro i hi;omega
  . simp(disch:=apply zq;omega) only[go_sem,simprocAttr,↓Nat.reduceEqDiff,xx,S30]
 have c55':call gl tab (d+5) 55 [.lst true .sc [],row1,.fn 29 []] []=some (.tup [i64 0,.bool false],[],[]):=by
  rw[zai (fd:=fd55) rfl]
  simp(disch:=apply zq;omega) only[go_sem,simprocAttr,↓Nat.reduceEqDiff,xx,fd55,m55]
  rw[zak (fun _=>⟨[.set 10 (i64 0),.set 9 (i64 0),.set 8 (i64 0),.set 4 (.ptr 4 []),.set 2 (.fn 29 []),.set 0 (.lst true .sc [])],[(4,.fix yA4 row1)]⟩) 0 (by unfold LF;omega)]
  . simp(disch:=apply zq;omega) only[go_sem,simprocAttr,↓Nat.reduceEqDiff,xx,S55]
  . simp(disch:=apply zq;omega) only[go_sem,simprocAttr,↓Nat.reduceEqDiff,xx,S55]
  . intro i hi;omega
  . simp(disch:=apply zq;omega) only[go_sem,simprocAttr,↓Nat.reduceEqDiff,xx,S55]
 have c58:call gl tab (d+5) 58 [.lst true .sc []] []=some (.sl 20000 [] 0 0,[],[.grow yA4 []]):=by
  rw[zd4 (fd:=fd58) rfl rfl]
  simp[zov]
 have c59:call gl tab (d+5) 59 [.sl 100000 [] 0 0,i64 0,.sl 100001 [] 0 1] [(100000,.grow yA4 []),(100001,.grow yA4 [row1])] =
   some (.sl 20000 [] 0 1,[(100000,.dead),(100001,.grow yA4 [row1])],[.grow yA4 [row1]]):=by
  have h1:(1:Nat)<=LIM:=by unfold LIM;omega
  rw[zd4 (fd:=fd59) rfl rfl]
  simp[zqi,Sh.beq,Sh.beqs,h1,insL]
 have c31:call gl tab (d+6) 31 [.lst true .sc [],row1,.fn 29 []] []=some (.sl 20000 [] 0 1,[],[.grow yA4 [row1]]):=by
  rw[zai (fd:=fd31) rfl]
  simp(disch:=apply zq;omega) only[go_sem,simprocAttr,↓Nat.reduceEqDiff,xx,fd31,m31,c55',c58,c59]
 rw[zai (fd:=fd12) rfl]
 simp(disch:=apply zq;omega) only[go_sem,simprocAttr,↓Nat.reduceEqDiff,xx,fd12,m12,c,c25,c26,c27,c28,c30,c31]
end Go.Proofs.S50
namespace Go.Proofs.S50
open Go Go.Ev Go.Proofs Go.Fl
variable {gl :Gl} {n:Nat}
theorem qh7 (h:1<=n){x:Int}(hx:0<=x/\x<=1000):call gl tab n 14 [i64 x] []=some (kyV (1000+x) 1 [115] 0 1099511627776,[],[]):=by
 obtain⟨d,rfl⟩:=wB h
 rw[zai (fd:=fd14) rfl]
 simp(disch:=apply zq;omega) only[go_sem,simprocAttr,↓Nat.reduceEqDiff,xx,fd14,m14]
abbrev q0 :PF:=⟨true,yA3,true,yA4⟩
theorem q0ok :PFOk q0 p0 r0:=⟨.inr rfl,.inr rfl⟩
set_option maxHeartbeats 1000000 in
theorem z9f [Nonempty (H.GlK gl)](h:62<=n):call gl tab n 5 [] []=some (.bool true,[],[]):=by
 obtain⟨d,rfl⟩:=wB h
 obtain⟨fl,pr,sent,cut,hs,c6⟩:=@make_at gl (d+61) q0 p0 r0 q0ok pk0 (by decide) (by decide) (by omega)
 obtain⟨w,e1,w1,w2,w3,w4⟩:=qd2 (net p0 r0) fl pr sent cut
 rw[e1]at c6
 rw[dm0]at hs
 obtain⟨hsent,hf0⟩:=qkj q0ok hs
 have hco:=qjl q0ok pk0 (by decide) (by decide) hs (by omega)
 have hcne:cut≠[]:=fun e=>by have:=hco.h0;rw[e]at this;cases this
 obtain⟨sl,hsl,c13⟩:=@z6g gl (d+61) _ (by omega) q0 p0 r0 q0ok pk0 (by decide) (by decide) sent fl pr cut (by rw[dm0];exact hs) w w1 w2 w3 w4 hcne
  ⟨1001,1,[115],0,1099511627776⟩ ⟨by decide,by decide,by decide,by decide,by decide⟩ 0 (by decide) (by decide) (by decide) 2 5 5000 5001 (by omega) (by decide) (by decide) (by decide) (by decide) (by decide)
 have c16:call gl tab (d+61) 16 [plV q0 p0 r0,rfV ⟨0,2,5,sent,false,cut,5000,5001,1,sl⟩] []=some (i64 0,[],[]):=by
  refine zya q0ok pk0 (by decide) (by decide) (x:=⟨0,2,5,sent,false,cut,5000,5001,1,sl⟩) hsl (by omega) ?_ ?_ ?_ ?_ hco.ck hco.h1 hco.h0 hco.b ?_ ?_
  . show 0<3;decide
  . show(spt p0 0).kd=1;decide
  . show(0:Int)<=2/\(2:Int)<(spt p0 0).cp;decide
  . show(0:Int)<=5/\(5:Int)<=1099511627776;decide
  . show sent<dm p0 p0.length;rw[dm0];omega
  . exact hco.m 0 (by decide) (by decide) (by rw[hf0];decide)
 have c14:=@qh7 gl (d+61) (by omega) 1 (by decide)
 have c11:=@z9e gl (d+61) (by omega)
 have c12:=@z5g gl (d+61) (by omega)
 have c15:=@zz0 gl (d+61) (by omega)
 have ep:plV q0 p0 r0= .agg [.lst true yA3 [.agg [i64 1,i64 1,i64 3],.agg [i64 2,i64 10,i64 9],.agg [i64 3,i64 7,i64 2]],.lst true yA4 [.agg [i64 0,i64 1,i64 9,i64 1],.agg [i64 1,i64 2,i64 9,i64 1]]]:=rfl
 rw[ep]at c6 c13 c16
 have ek:kyV (1000+1) 1 [115] 0 1099511627776=kyV 1001 1 [115] 0 1099511627776:=rfl
 rw[ek]at c14
 simp only[rfV,Int.natCast_zero]at c13 c16
 have es:(w.s==2)=true:=by rw[w1,hsent];rfl
 rw[zai (fd:=fd5) rfl]
 simp(disch:=apply zq;omega) only[go_sem,simprocAttr,↓Nat.reduceEqDiff,xx,fd5,m5,c6,c11,c12,c13,c14,c15,c16,es,hsl.len,hsl.a,hsl.i]
end Go.Proofs.S50
namespace Go.Proofs.S50
open Go Go.Ev Go.Proofs Go.Fl
variable {gl :Gl} {n:Nat}
abbrev kSp :Kd:=.st [.int .i64,.int .i64,.int .i64]
abbrev kRd :Kd:=.st [.int .i64,.int .i64,.int .i64,.int .i64]
abbrev kP :Kd:=.st [.sl kSp,.sl kRd]
theorem kdSp :∀{l:List AV},(∀x∈l,HasKd kSp x)->∃r:List Sp,l=ps r
 | [],_=>⟨[],rfl⟩
 | x::l,h=>by
   obtain⟨k,rfl,hx⟩:=h x (by simp)
   simp only[HasKds]at hx
   obtain⟨_,_,rfl,⟨a,rfl,_⟩,_,_,rfl,⟨b,rfl,_⟩,_,_,rfl,⟨c,rfl,_⟩,rfl⟩:=hx
   obtain⟨r,rfl⟩:=kdSp (l:=l) fun y hy=>h y (by simp[hy])
   exact⟨⟨a,b,c⟩::r,rfl⟩
theorem kdRd :∀{l:List AV},(∀x∈l,HasKd kRd x)->∃r:List Rd,l=ds r
 | [],_=>⟨[],rfl⟩
 | x::l,h=>by
   obtain⟨k,rfl,hx⟩:=h x (by simp)
   simp only[HasKds]at hx
   obtain⟨_,_,rfl,⟨a,rfl,_⟩,_,_,rfl,⟨b,rfl,_⟩,_,_,rfl,⟨c,rfl,_⟩,_,_,rfl,⟨e,rfl,_⟩,rfl⟩:=hx
   obtain⟨r,rfl⟩:=kdRd (l:=l) fun y hy=>h y (by simp[hy])
   exact⟨⟨a,b,c,e⟩::r,rfl⟩
theorem kdP {x:AV}(h:HasKd kP x):∃(p:List Sp) (r:List Rd),x=plV ⟨false,yA3,false,yA4⟩ p r/\p.length<=9223372036854775807/\r.length<=9223372036854775807:=by
 obtain⟨k,rfl,hx⟩:=h
 simp only[HasKds]at hx
 obtain⟨_,_,rfl,⟨d1,rfl,hd1,h1⟩,_,_,rfl,⟨d2,rfl,hd2,h2⟩,rfl⟩:=hx
 obtain⟨p,rfl⟩:=kdSp h1
 obtain⟨r,rfl⟩:=kdRd h2
 refine⟨p,r,rfl,?_,?_⟩
 . have:=hd1;simp[Go.maxLen,zac]at this;omega
 . have:=hd2;simp[Go.maxLen,zaq]at this;omega
theorem law3 [Nonempty (H.GlK gl)](hn:100<=n)(ar:List AV)(h:HasKds [kP,kP] ar):call gl tab (n+1) 3 ar []=some (.bool true,[],[]):=by
 simp only[HasKds]at h
 obtain⟨_,_,rfl,h1,_,_,rfl,h2,rfl⟩:=h
 obtain⟨p,r,rfl,lp,lr⟩:=kdP h1
 obtain⟨q,s,rfl,lq,ls⟩:=kdP h2
 exact qk9 hn (z9f (by omega)) ⟨.inr rfl,.inr rfl⟩ ⟨.inr rfl,.inr rfl⟩ lp lr lq ls
end Go.Proofs.S50
namespace Go.Proofs.YtaloneiaejhopaaDoor
open Go Go.Ev Go.Proofs Go.ChangeShapes Go.WideShapes Go.ChangeAt Go.RowKit
theorem own :ownKnob Tryd.prog.godebug=none:=by kernel_rfl
theorem gCon :Tryd.prog.globalNamed "weirgate/hash.constants" =some 0:=by kernel_rfl
theorem qld :(Tryd.prog.globals[0]?).map (·.type)=some 177:=by kernel_rfl
theorem kCon :kdOf Tryd.prog 8 177=some (.ar 64 (.int .u32)):=by kernel_rfl
theorem qlu :AV.agg S50.kA=avD (H:=Unit) (.ar 64 (.int .u32)) Rows.laid_weirgate_hash_constants:=by kernel_rfl
theorem qh3 :laidOutB Tryd.prog=true:=by kernel_rfl
theorem z8a {P:Program}{t t':Nat->Option (Sh×AV)}{ri:Nat->Option RInfo}{f:Nat}{fd:Ev.Fd}(h:FnOk P ⟨t,ri⟩ f fd):FnOk P ⟨t',ri⟩ f fd:=by
 cases h with
 | code h hlt ok=>exact .code h hlt ⟨ok.ok⟩
 | given g h hlt ok=>exact .given g h hlt ok
 | round rid ps sl ma mb hf h ok=>exact .round rid ps sl ma mb hf h ⟨ok.ok⟩
 | dfr D h hlt ok =>
   obtain⟨fn,codes,id,ops,cB,an,im,o,c,h1,h2,h3,h4,h5,h6,h7,h8,h9,h10,h11,h12,h13,h14,h15,h16,h17,fc⟩:=ok.ok
   exact .dfr D h hlt ⟨fn,codes,id,ops,cB,an,im,o,c,h1,h2,h3,h4,h5,h6,h7,h8,h9,h10,h11,h12,h13,h14,h15,h16,h17,⟨fc.ok⟩⟩
noncomputable def gl1:Gl:=⟨fun g=>match g with|0=>some (.ar 64 .sc,.agg S50.kA)|_=>none,S50.ri⟩
theorem qa0 :∀f fd,S50.tab f=some fd->FnOk Tryd.prog gl1 f fd:=fun f fd h=>z8a (S50.tab_ok f fd h)
theorem qix :Nonempty (S50.H.GlK gl1):=⟨⟨rfl⟩⟩
abbrev qh4 :List (String×DataW Unit):=[("weirgate/hash.constants",Rows.laid_weirgate_hash_constants)]
theorem qlc {W:World}(h:laidMetH Tryd.prog qh4 W):TabOk W.heap gl1:=by
 have h:laidMet Tryd.prog qh4 W:=h
 refine z3r h fun g sh a hg=> ?_
 match g,hg with
 | 0,hg =>
   obtain⟨rfl,rfl⟩:=Prod.mk.inj (Option.some.inj hg)
   exact⟨_,List.mem_cons_self,8,177,_,gCon,qld,kCon,rfl,qlu⟩
 | _+1,hg=>cases hg
def z82 :Array Value:=(S50.kList.map fun x=>Value.int .u32 (x.toNat:Int)).toArray
def put (vs:Array Value):Obj->Obj
 | .cells _ t frozen=>.cells vs t frozen
 | o=>o
noncomputable def zmk (os:Os):World :=
 {World.holding Tryd.prog os ⟨#[],#[],[]⟩with heap:=(World.holding Tryd.prog os ⟨#[],#[],[]⟩).heap.modify 0 (put z82)}
end Go.Proofs.YtaloneiaejhopaaDoor
