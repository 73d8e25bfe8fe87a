/-
  Chapter 3: peaks that grow. No condition.
-/
import Derived.Test.YtcddalfeicoedaaGreatDoorW44G15x3
import Derived.Test.YtcddalfeicoedaaGreatDoorW44G11x3
set_option linter.all false
open Nat renaming exists_eq_add_of_le'->wA,le_refl->wB,sub_zero->wC,div_div_eq_div_mul->wD,pow_zero->wE,pow_succ->wF,div_one->wG,min_eq_left->wH,mul_comm->wI
open List renaming take_of_length_le->wJ,length_take->wK,length_nil->wL,dropLast_eq_take->wM,length_dropLast->wN,take_length->wO,drop_length->wP,take_take->wQ,drop_zero->wR,take_nil->wS,drop_nil->wT
namespace Go.Proofs.S44.M
open Go Go.Ev Go.Proofs Go.Mk
open Go.Proofs.S44.H (GlK GlR)
variable {gl :Gl} {n:Nat}
theorem Sd.drop {p:List Dg}{sh:Sh}(hs:Sd p sh sB)(k:Nat):Sd (p.drop k) sh sB:=by
 rcases hs with h|h
 . subst h;exact Or.inl (by simp)
 . exact Or.inr h
theorem z7g (h:1<=n){f:Bool}{sh:Sh}{t:List Dg}(hl:t.length<=1000000)(hs:Sd t sh sB) :
  call gl tab n 106 [.lst f sh (dgL t)] []=some (.sl 20000 [] 0 t.length,[],[.grow sB (dgL t)]):=by
 obtain⟨d,rfl⟩:=wA h
 have h1:t.length<=LIM:=by unfold LIM;omega
 rw[zk4 (fd:=qb3) rfl rfl]
 rcases hs with rfl|rfl
 . simp[zr2,zea]
 . simp[zr2,dgL_length,h1,Sh.beq,Sh.beqs]
def grw (s:Nat)(t:List Dg)(leaf:Dg):List Dg:=t.take (t.length-tr1 s)++[bk (t.drop (t.length-tr1 s)) leaf]
theorem qj7 (y:BitVec 64):BitVec.ofInt 64 (if IntKind.u64.signed=true then -1 else IntKind.u64.max)^^^y= ~~~ y:=by
 rw[show BitVec.ofInt 64 (if IntKind.u64.signed=true then -1 else IntKind.u64.max)=BitVec.allOnes 64 from by decide +kernel]
 exact BitVec.allOnes_xor
section
variable [Nonempty (GlK gl)] [Nonempty (GlB gl)]
theorem append_ok (h:14<=n){s:Nat}{f:Bool}{sh:Sh}{t:List Dg}{leaf:Dg}(hf:leaf.length=16)(hl:t.length<=1000000)(ha:All16 t)(hs:Sd t sh sB)(hz:s<1099511627776)(hF:Form s t) :
  call gl tab n 52 [pkAV s f sh t,bAV leaf] []=some (.tup [.agg [i64 (s+1:Nat),.lst false sB (dgL (grw s t leaf))],i64 0],[],[]):=by
 obtain⟨d,rfl⟩:=wA h
 have c:=@ztk gl (d+13) (by omega) s f sh t hl (by omega)
 rw[decide_eq_true hF]at c
 have hle:tr1 s<=t.length:=by have h1:=zqj s s (wB _);have h2:=hF.2.2;rw[Int.toNat_natCast]at h2;omega
 have l1:=b16t hf
 have l2:=H.bytes_all leaf
 have tz:=@z3h gl (d+13) _ (by omega) s (by omega)
 have hL:=dgL_length t
 have hT:=zh3 t
 have hs1:Sd (t.take (t.length-tr1 s)) sh sB:=by rcases hs with rfl|h0;exact Or.inl (by simp);exact Or.inr h0
 have hs2:Sd (t.drop (t.length-tr1 s)) sh sB:=hs.drop _
 have k1:=fun f'=>@z7g gl (d+13) (by omega) f' sh (t.take (t.length-tr1 s)) (by rw[wK];omega) hs1
 have b1:=fun f'=>@zmw gl (d+13) (by omega) f' sh (t.drop (t.length-tr1 s))
 have b2:=fun f'=>@z3a gl (d+13) _ (by omega) f' sh (t.drop (t.length-tr1 s)) leaf (by rw[List.length_drop];omega) (ha.drop _) hf hs2
 have b3:=zmv (t.drop (t.length-tr1 s)) hf
 have b4:=H.bytes_all (bk (t.drop (t.length-tr1 s)) leaf)
 have b5:=H.noImms_bytesAV (bk (t.drop (t.length-tr1 s)) leaf)
 have n1:=dgL_noImms (t.take (t.length-tr1 s))
 have hk:(t.take (t.length-tr1 s)).length=t.length-tr1 s:=by rw[wK];omega
 have hkL:=dgL_length (t.take (t.length-tr1 s))
 have hkT:=zh3 (t.take (t.length-tr1 s))
 rw[hk]at k1 hkL hkT
 rw[grw,zp1]
 have ej:(t.length:Int)-(tr1 s:Int)=((t.length-tr1 s:Nat):Int):=by omega
 have es:BitVec.ofInt 64 (s:Int)=BitVec.ofNat 64 s:=BitVec.ofInt_natCast ..
 have hlim:t.length+1<=LIM:=by unfold LIM;omega
 have hs':((s+1:Nat):Int)=(s:Int)+1:=by omega
 rw[hs']
 have hj:t.length-tr1 s<=t.length:=Nat.sub_le _ _
 have hcv:IntKind.wrap .u64 (s:Int)=(s:Int):=by rw[zod,BitVec.ofInt_natCast,BitVec.toNat_ofNat,Nat.mod_eq_of_lt (by omega)]
 simp only[<-zdw,<-zgc]at k1 b1 b2 n1 hkL hkT ⊢
 clear hF hs1 hs2
 generalize tr1 s=j0 at *
 generalize bk (t.drop (t.length-j0)) leaf=q at *
 generalize hjj:t.length-j0=j at *
 have hT2:List.take (j+1) (List.take j (dgL t)++[AV.agg (zac q)])=List.take j (dgL t)++[AV.agg (zac q)]:=wJ (by simp[hkL])
 rcases hs with h0|h0
 . subst h0
   obtain rfl:j=0:=by simpa using hj
   obtain rfl:j0=0:=by simpa using hle
   simp only[zea,wS,wT,List.nil_append,wL]at *
   replace c:call gl tab (d+13) 102 [.agg [i64 s,.lst f sh []]] []=some (.bool true,[],[]):=c
   show call gl tab (d+14) 52 [.agg [i64 s,.lst f sh []],bAV leaf] []=_
   rw[zad (fd:=fd52) rfl]
   simp(maxSteps:=1000000) (disch:=apply zq;omega) only[go_sem,simprocAttr,↓Nat.reduceEqDiff,xx,fd52,m52,↓out16_eq,H.out16_len,H.out16_all,H.out16_pl,↓zs3,c,hf,l1,l2,tz,es,k1,b1,b2,b3,b4,b5,n1,hT2,zcb]
 . subst h0
   rw[zad (fd:=fd52) rfl]
   simp(maxSteps:=1000000) (disch:=apply zq;omega) only[go_sem,simprocAttr,↓Nat.reduceEqDiff,xx,fd52,m52,↓out16_eq,H.out16_len,H.out16_all,H.out16_pl,↓zs3,c,hf,l1,l2,qj7,tz,ej,es,hL,hT,k1,b1,b2,b3,b4,b5,n1,hkL,hkT,hT2,zcb]
end
end Go.Proofs.S44.M
namespace Go.Proofs.S44.M
open Go Go.Ev Go.Proofs Go.Mk
theorem zuj :∀t:List Dg,topV t=tpF nd em t
 | []=>rfl
 | [d]=>rfl
 | d::e::l=>by
   have ih:=zuj (e::l)
   rw[tpF,<-ih,zk8 (by simp),zk8 (by simp)]
   rfl
theorem zu6 (z:Dg):∀(k:Nat) (t:List Dg) (d:Dg),k<=t.length->jns nd z k (t,d)=(t.take (t.length-k),bk (t.drop (t.length-k)) d)
 | 0,t,d,h=>by rw[jns,wC,wO,wP];rfl
 | k+1,t,d,h=>by
   have hn:t≠[]:=List.length_pos_iff.1 (by omega)
   rw[jns,jn]
   simp only
   rw[zu6 z k _ _ (by rw[wN];omega)]
   rw[wN,show t.length-1-k=t.length-(k+1) by omega,wM,wQ,wH (by omega)]
   congr 1
   have e:t.drop (t.length-(k+1))=(t.take (t.length-1)).drop (t.length-(k+1))++[t.getLastD z]:=by
    have h1:t=t.take (t.length-1)++[t.getLastD z]:=by
     rw[<-wM,List.getLastD_eq_getLast?,List.getLast?_eq_some_getLast hn,Option.getD_some,List.dropLast_concat_getLast]
    conv=>lhs;rw[h1]
    rw[List.drop_append_of_le_length (by rw[wK,<-h1];omega)]
    rw[<-h1]
   rw[e,bk,bk,List.foldr_append]
   rfl
theorem qbq (z:Dg){s:Nat}{t:List Dg}{d:Dg}(h:tr1 s<=t.length):grw s t d=(jns nd z (tr1 s) (t,d)).1++[(jns nd z (tr1 s) (t,d)).2]:=by
 rw[zu6 z _ _ _ h];rfl
end Go.Proofs.S44.M
namespace Go.Proofs.S44.M
open Go Go.Ev Go.Proofs Go.Mk
open Go.Proofs.S44.H (GlK GlR)
variable {gl :Gl} {n:Nat}
theorem zui :∀(i s:Nat),i<tr1 s->s/2^i%2=1
 | 0,s,h=>by
   rw[wE,wG]
   by_cases h1:s%2=1
   . exact h1
   . rw[zkl (by omega)]at h;omega
 | i+1,s,h=>by
   have h1:s%2=1:=by
    by_cases h1:s%2=1
    . exact h1
    . rw[zkl (by omega)]at h;omega
   rw[zse h1]at h
   rw[wF,wI,<-wD]
   exact zui i (s/2) (by omega)
theorem zug :∀(c s:Nat),s<=c->s/2^tr1 s%2=0
 | c,s,h=>by
   by_cases h1:s%2=1
   . match c,h with
     | 0,h=>omega
     | c+1,h =>
       rw[zse h1,wF,wI,<-wD]
       exact zug c (s/2) (by omega)
   . rw[zkl (by omega),wE,wG];omega
section
variable [Nonempty (GlR gl)]
def L30 :MC:=match m57 with| .seq _ (.seq _ (.seq _ (.seq _ (.seq _ (.seq _ (.seq (.seq _ (.block _ (.loop _ b))) _))))))=>b|_=>.skip
abbrev zG :OB:=.fix (.st [.st [.sc,.sc],.sc]) (.agg [.agg [i64 0,nilA],i64 0])
def S30 (s:Nat)(f:Bool)(sh:Sh)(t:List Dg)(leaf:Dg)(i:Nat):St :=
 ⟨[.set 8 (i64 ((s/2^i:Nat):Int)),.set 7 (.ptr 7 []),.set 6 (.sl 5006 [] 0 (t.length-i)),.set 4 (.ptr 4 []),.set 2 (.ptr 2 [])],
   [(7,cD (bk (t.drop (t.length-i)) leaf)),(4,zG),(2,.fix (.st [.sc,.sc]) (pkAV s f sh t)),(5006,.grow sB (dgL (t.take (t.length-i))))]⟩
theorem step30 {k:Nat}(hk:8<=k){s:Nat}{f:Bool}{sh:Sh}{t:List Dg}{leaf:Dg}{i:Nat}(hi:i<tr1 s)(hle:tr1 s<=t.length)(hl:t.length<=1000000)(ha:All16 t)(hf:leaf.length=16)(hs:s<=1099511627776) :
  zbd [.slot 2,.slot 4,.own 6 5006 (.ar 16 .sc),.slot 7,.slot 8,.key 2,.key 4,.key 7] (evC gl (call gl tab k) L30 (S30 s f sh t leaf i))=some (S30 s f sh t leaf (i+1)):=by
 have h1:=zui i s hi
 have em:=rem2 (s/2^i)
 have hsb:s/2^i<=s:=Nat.div_le_self _ _
 have ed:=quo2 (y:=s/2^i) (by omega)
 rw[h1]at em
 rw[wD,<-wF]at ed
 have hj:t.length-(i+1)<t.length:=by omega
 have hb:=@zt5 t leaf (t.length-(i+1)) hj
 rw[show t.length-(i+1)+1=t.length-i by omega]at hb
 have hA:(dgL (t.take (t.length-i)))[t.length-(i+1)]? =some (.agg (zac (dgA t (t.length-(i+1))))):=by
  rw[<-zdw,List.getElem?_take_of_lt (by omega)];exact dgL_at hj
 have hT:List.take (t.length-(i+1)) (dgL (t.take (t.length-i)))=dgL (t.take (t.length-(i+1))):=by
  rw[zdw,wQ,wH (by omega)]
 have hL:(dgL (t.take (t.length-i))).length=t.length-i:=by rw[dgL_length,wK];omega
 have hL2:(dgL (t.take (t.length-(i+1)))).length=t.length-(i+1):=by rw[dgL_length,wK];omega
 have hT2:List.take (t.length-(i+1)) (dgL (t.take (t.length-(i+1))))=dgL (t.take (t.length-(i+1))):=wJ (by omega)
 have q1:=ha.at hj
 have hq:=zmv (t.drop (t.length-i)) hf
 have q2:=H.bytes_all (dgA t (t.length-(i+1)))
 have hq2:=H.bytes_all (bk (t.drop (t.length-i)) leaf)
 have c:=@zuq gl k _ (by omega) _ _ q1 hq
 have c3:=zfm (dgA t (t.length-(i+1))) (bk (t.drop (t.length-i)) leaf)
 have c4:=H.bytes_all (nd (dgA t (t.length-(i+1))) (bk (t.drop (t.length-i)) leaf))
 have c5:=H.noImms_bytesAV (nd (dgA t (t.length-(i+1))) (bk (t.drop (t.length-i)) leaf))
 have n1:=dgL_noImms (t.take (t.length-(i+1)))
 rw[<-hb]at c c3 c4 c5
 have e1:((t.length-i:Nat):Int)-1=((t.length-(i+1):Nat):Int):=by omega
 have hlim:t.length-(i+1)<=LIM:=by unfold LIM;omega
 have hij:t.length-i=t.length-(i+1)+1:=by omega
 rw[S30,S30]
 clear hb h1
 generalize bk (t.drop (t.length-i)) leaf=d1 at *
 generalize bk (t.drop (t.length-(i+1))) leaf=d2 at *
 generalize dgA t (t.length-(i+1))=x at *
 generalize dgL (t.take (t.length-i))=l1 at *
 generalize dgL (t.take (t.length-(i+1)))=l2 at *
 generalize s/2^(i+1)=y2 at *
 generalize s/2^i=y1 at *
 generalize t.length-(i+1)=j at *
 generalize t.length-i=j1 at *
 simp(disch:=apply zq;omega) only[go_sem,simprocAttr,↓Nat.reduceEqDiff,xx,L30,m57,hL,hL2,hA,hT,hT2,q1,q2,hq,hq2,c,c3,c4,c5,n1,em,ed,e1,zcb,H.noImms_bytesAV,wC]
theorem rappend_ok (h:14<=n){s:Nat}{f:Bool}{sh:Sh}{t:List Dg}{leaf:Dg}(hf:leaf.length=16)(hl:t.length<=1000000)(ha:All16 t)(hs:Sd t sh sB)(hz:s<1099511627776)(hF:Form s t) :
  call gl tab n 57 [pkAV s f sh t,bAV leaf] []=some (.agg [.agg [i64 (s+1:Nat),.lst false sB (dgL (grw s t leaf))],i64 0],[],[]):=by
 obtain⟨d,rfl⟩:=wA h
 have c:=@z36 gl (d+13) (by omega) s f sh t hl (by omega)
 rw[decide_eq_true hF]at c
 have hle:tr1 s<=t.length:=by have h1:=zqj s s (wB _);have h2:=hF.2.2;rw[Int.toNat_natCast]at h2;omega
 have l1:=b16t hf
 have l2:=H.bytes_all leaf
 have hL:=dgL_length t
 have hT:=zh3 t
 have st:=fun i hi=>@step30 gl _ (d+13) (by omega) s f sh t leaf i hi hle hl ha hf (by omega)
 have stop:=rem2 (s/2^tr1 s)
 rw[zug s s (wB _)]at stop
 have hlim:t.length<=LIM:=by unfold LIM;omega
 have hlim2:t.length-tr1 s+1<=LIM:=by unfold LIM;omega
 have n0:=dgL_noImms t
 have hs':((s+1:Nat):Int)=(s:Int)+1:=by omega
 have e0:S30 s f sh t leaf 0=⟨[.set 8 (i64 s),.set 7 (.ptr 7 []),.set 6 (.sl 5006 [] 0 t.length),.set 4 (.ptr 4 []),.set 2 (.ptr 2 [])],
  [(7,cD leaf),(4,zG),(2,.fix (.st [.sc,.sc]) (pkAV s f sh t)),(5006,.grow sB (dgL t))]⟩:=by
  rw[S30,wE,wG,wC,wP,wO];rfl
 simp only[L30,m57]at st
 rw[hs',grw,zp1]
 have b3:=zmv (t.drop (t.length-tr1 s)) hf
 have b4:=H.bytes_all (bk (t.drop (t.length-tr1 s)) leaf)
 have b5:=H.noImms_bytesAV (bk (t.drop (t.length-tr1 s)) leaf)
 have n1:=dgL_noImms (t.take (t.length-tr1 s))
 have hL2:(dgL (t.take (t.length-tr1 s))).length=t.length-tr1 s:=by rw[dgL_length,wK];omega
 have hT2:List.take (t.length-tr1 s+1) (dgL (t.take (t.length-tr1 s))++[AV.agg (zac (bk (t.drop (t.length-tr1 s)) leaf))])=dgL (t.take (t.length-tr1 s))++[AV.agg (zac (bk (t.drop (t.length-tr1 s)) leaf))]:=wJ (by simp[hL2])
 have hT3:List.take (t.length-tr1 s) (dgL (t.take (t.length-tr1 s)))=dgL (t.take (t.length-tr1 s)):=wJ (by omega)
 have htl:=z7u (s:=s) (by omega)
 rcases hs with h0|h0
 . subst h0
   obtain rfl:s=0:=by have:=z5k hF;omega
   have ht0:tr1 0=0:=zkl rfl
   have eS:S30 0 f sh [] leaf 0=⟨[.set 8 (i64 0),.set 7 (.ptr 7 []),.set 6 (.sl 5006 [] 0 0),.set 4 (.ptr 4 []),.set 2 (.ptr 2 [])],
    [(7,cD leaf),(4,zG),(2,.fix (.st [.sc,.sc]) (.agg [i64 0,.lst f sh []])),(5006,.grow sB [])]⟩:=by
    rw[S30];simp[zea,bk]
   replace c:call gl tab (d+13) 109 [.agg [i64 0,.lst f sh []]] []=some (.bool true,[],[]):=c
   simp only[ht0,wL,wC,wS,wT,zea,bk,List.foldr_nil]
   show call gl tab (d+14) 57 [.agg [i64 0,.lst f sh []],bAV leaf] []=some (.agg [.agg [i64 (0+1),.lst false sB ([]++[.agg (zac leaf)])],i64 0],[],[])
   have b5:=H.noImms_bytesAV leaf
   have l0:1<=LIM:=by unfold LIM;omega
   rw[zad (fd:=fd57) rfl]
   simp(disch:=apply zq;omega) only[go_sem,simprocAttr,↓Nat.reduceEqDiff,xx,fd57,m57,↓out16_eq,H.out16_len,H.out16_all,H.out16_pl,c,l1,l2,hf,zcb,H.noImms_bytesAV]
   rw[zag (S30 0 f sh [] leaf) 0 (by unfold LF;omega)]
   . rw[eS]
     have st0:zar .rem .i64 0 2=some (i64 0):=rem2 0
     simp(disch:=apply zq;omega) only[go_sem,simprocAttr,↓Nat.reduceEqDiff,xx,st0,hf,l2,b5,zcb,H.noImms_bytesAV]
   . rw[eS];simp(disch:=apply zq;omega) only[go_sem,simprocAttr,↓Nat.reduceEqDiff,xx]
   . intro i hi;omega
   . rw[eS]
     have st0:zar .rem .i64 0 2=some (i64 0):=rem2 0
     simp(disch:=apply zq;omega) only[go_sem,simprocAttr,↓Nat.reduceEqDiff,xx,st0]
 . subst h0
   rw[zad (fd:=fd57) rfl]
   simp(disch:=apply zq;omega) only[go_sem,simprocAttr,↓Nat.reduceEqDiff,xx,fd57,m57,↓out16_eq,H.out16_len,H.out16_all,H.out16_pl,c,l1,l2,hf,hL,hT,n0,zcb,H.noImms_bytesAV]
   rw[zag (S30 s f sB t leaf) (tr1 s) (by unfold LF;omega)]
   . rw[S30]
     clear st e0 hF
     generalize bk (t.drop (t.length-tr1 s)) leaf=q at *
     generalize dgL (t.take (t.length-tr1 s))=l3 at *
     generalize s/2^tr1 s=y at *
     generalize t.length-tr1 s=j at *
     simp(disch:=apply zq;omega) only[go_sem,simprocAttr,↓Nat.reduceEqDiff,xx,stop,b3,b4,b5,n1,hL2,hT2,hT3,zcb,H.noImms_bytesAV]
   . rw[e0];simp(disch:=apply zq;omega) only[go_sem,simprocAttr,↓Nat.reduceEqDiff,xx]
   . exact st
   . rw[S30]
     simp(disch:=apply zq;omega) only[go_sem,simprocAttr,↓Nat.reduceEqDiff,xx,stop]
end
end Go.Proofs.S44.M
namespace Go.Proofs.S44.M
open Go Go.Ev Go.Proofs Go.Mk
open Go.Proofs.S44.H (GlK GlR)
variable {gl :Gl} {n:Nat}
end Go.Proofs.S44.M
namespace Go.Proofs.S44.L
open Go Go.Ev Go.Proofs Go.Proofs.S44
open Go.Proofs.S44.H (strsAV zaa zai Sml GlK GlR zam zbn nsI zal zint zau encB zaw zaf dig inp)
open Go.Proofs.S44.M (lf zcv)
variable {gl :Gl} {n:Nat}
def leaf (x:Re):List UInt8:=lf (zbg (reP x))
theorem zhh (x:Re):(leaf x).length=16:=zcv _
theorem zv7 {x:Re}(hx:ReOk x):((zac x.dat).length=16/\(zac x.pol).length=16/\(zac x.tk.sgn).length=16)/\(zac x.sp.body).length=16/\(zac x.sp.sgn).length=16/\(zac x.le.sgn).length=16 :=
 ⟨⟨b16 hx.d,b16 hx.p,b16 hx.t.s⟩,b16 hx.s.r,b16 hx.s.s,b16 hx.l.s⟩
theorem leaf_at [Nonempty (GlK gl)](h:12<=n){x:Re}(r:ReR x)(s:ReS x):call gl tab n 28 [reAV x] []=some (bAV (leaf x),[],[]):=by
 obtain⟨d,rfl⟩:=wA h
 have hx:=s.ok r
 have c1:=@z4t gl (d+11) (by omega) _ hx
 have c2:=@zfg gl (d+11) (by omega) false _ (zsx r s)
 have c3:=@M.leaf_at gl (d+11) _ (by omega) (zbg (reP x)) (zsw r s)
 rw[show lf (zbg (reP x))=leaf x from rfl]at c3
 obtain⟨⟨u1,u2,u3⟩,u4,u5,u6⟩:=zv7 hx
 have w1:=H.bytes_all x.dat
 have w2:=H.bytes_all x.pol
 have w3:=H.bytes_all x.tk.sgn
 have w4:=H.bytes_all x.sp.body
 have w5:=H.bytes_all x.sp.sgn
 have w6:=H.bytes_all x.le.sgn
 have l:=zhh x
 have q:=H.bytes_all (leaf x)
 have t:List.take (zbg (reP x)).length (zac (zbg (reP x)))=zac (zbg (reP x)):=wJ (by rw[zab];exact wB _)
 generalize leaf x=g at *
 generalize zbg (reP x)=z at *
 rw[zad (fd:=fd28) rfl]
 simp(disch:=apply zq;omega) only[go_sem,simprocAttr,↓Nat.reduceEqDiff,xx,fd28,m28,↓out16_eq,H.oo,u1,u2,u3,u4,u5,u6,w1,w2,w3,w4,w5,w6,c1,c2,c3,l,q,t,zab,H.noImms_bytesAV]
theorem z45 [Nonempty (GlK gl)](h:12<=n){x:Re}(r:ReR x)(s:ReS x)(n1:x.hs=[])(n2:x.tk.cs=[])(n3:x.rl.tg=[])(n4:x.rl.vy=[]):call gl tab n 28 [z4k x] []=some (bAV (leaf x),[],[]):=by
 obtain⟨d,rfl⟩:=wA h
 have hx:=s.ok r
 have c1:=@zz6 gl (d+11) (by omega) _ hx n1 n2 n3 n4
 have c2:=@zfg gl (d+11) (by omega) false _ (zsx r s)
 have c3:=@M.leaf_at gl (d+11) _ (by omega) (zbg (reP x)) (zsw r s)
 rw[show lf (zbg (reP x))=leaf x from rfl]at c3
 obtain⟨⟨u1,u2,u3⟩,u4,u5,u6⟩:=zv7 hx
 have w1:=H.bytes_all x.dat
 have w2:=H.bytes_all x.pol
 have w3:=H.bytes_all x.tk.sgn
 have w4:=H.bytes_all x.sp.body
 have w5:=H.bytes_all x.sp.sgn
 have w6:=H.bytes_all x.le.sgn
 have l:=zhh x
 have q:=H.bytes_all (leaf x)
 have t:List.take (zbg (reP x)).length (zac (zbg (reP x)))=zac (zbg (reP x)):=wJ (by rw[zab];exact wB _)
 generalize leaf x=g at *
 generalize zbg (reP x)=z at *
 rw[zad (fd:=fd28) rfl]
 simp(disch:=apply zq;omega) only[go_sem,simprocAttr,↓Nat.reduceEqDiff,xx,fd28,m28,↓out16_eq,H.oo,u1,u2,u3,u4,u5,u6,w1,w2,w3,w4,w5,w6,c1,c2,c3,l,q,t,zab,H.noImms_bytesAV]
theorem rleaf_at [Nonempty (GlR gl)](h:12<=n){x:Re}(r:ReR x)(s:ReS x):call gl tab n 26 [reAV x] []=some (bAV (leaf x),[],[]):=by
 obtain⟨d,rfl⟩:=wA h
 have hx:=s.ok r
 have c1:=@zqs gl (d+11) (by omega) _ hx
 have c2:=@zpf gl (d+11) (by omega) false _ (zsx r s)
 have c3:=@M.rleaf_at gl (d+11) _ (by omega) (zbg (reP x)) (zsw r s)
 rw[show lf (zbg (reP x))=leaf x from rfl]at c3
 obtain⟨⟨u1,u2,u3⟩,u4,u5,u6⟩:=zv7 hx
 have w1:=H.bytes_all x.dat
 have w2:=H.bytes_all x.pol
 have w3:=H.bytes_all x.tk.sgn
 have w4:=H.bytes_all x.sp.body
 have w5:=H.bytes_all x.sp.sgn
 have w6:=H.bytes_all x.le.sgn
 have l:=zhh x
 have q:=H.bytes_all (leaf x)
 generalize leaf x=g at *
 generalize zbg (reP x)=z at *
 rw[zad (fd:=fd26) rfl]
 simp(disch:=apply zq;omega) only[go_sem,simprocAttr,↓Nat.reduceEqDiff,xx,fd26,m26,↓out16_eq,H.oo,u1,u2,u3,u4,u5,u6,w1,w2,w3,w4,w5,w6,c1,c2,c3,l,q,zab,H.noImms_bytesAV]
end Go.Proofs.S44.L
namespace Go.Proofs.S44.L
open Go Go.Ev Go.Proofs Go.Proofs.S44
open Go.Proofs.S44.H (strsAV zaa zai Sml GlK GlR zam zbn nsI zal zint zau encB zaw zaf dig inp)
open Go.Proofs.S44.M (lf zcv Dg dgL dgL_length All16 Sd sB pkAV grw)
variable {gl :Gl} {n:Nat}
structure Rv where
 site:Int
 seq:Int
 r:List AV
 f:List UInt8
abbrev rvAV (x:Rv):AV:=.agg (i64 x.site::i64 x.seq::x.r)
abbrev rSh :List Sh:=[.st [.sc,.sc,.sc,.sc,.st [.sc,.sc]],.sc,sTk,.ar 16 .sc,sRl,.sc,sSp,.sc,.st [.sc,.sc],.ar 16 .sc,sTk,.sc,.sc]
structure RvOk (gl:Gl)(x:Rv):Prop where
 sh:za2 rSh x.r=true
 f:x.f.length=16
 l:∀n,12<=n->call gl tab n 28 [rvAV x] []=some (bAV x.f,[],[])
def rvs (l:List Rv):List AV:=l.map rvAV
theorem zaz (l:List Rv):(rvs l).length=l.length:=by simp[rvs]
theorem zzm (l:List Rv)(x:Rv):rvs l++[rvAV x]=rvs (l++[x]):=by simp[rvs]
theorem site_at (h:1<=n)(a:Int):call gl tab n 47 [i64 a] []=some (.bool (decide (0<=a/\a<64)),[],[]):=by
 obtain⟨d,rfl⟩:=wA h
 rw[zad (fd:=fd47) rfl]
 by_cases h1:0<=a
 . by_cases h2:a<64
   . rw[decide_eq_true ⟨h1,h2⟩];simp(disch:=apply zq;omega) only[go_sem,simprocAttr,↓Nat.reduceEqDiff,xx,fd47,m47]
   . rw[decide_eq_false (fun h=>h2 h.2)];simp(disch:=apply zq;omega) only[go_sem,simprocAttr,↓Nat.reduceEqDiff,xx,fd47,m47]
 . rw[decide_eq_false (fun h=>h1 h.1)];simp(disch:=apply zq;omega) only[go_sem,simprocAttr,↓Nat.reduceEqDiff,xx,fd47,m47]
abbrev sLd :Sh:=.st [.sc,.sc,.st [.sc,.sc],.sc]
theorem z82 {sh:Sh}{l:List AV}{k:Nat}(hs:l=[]\/sh.size=k):(l.isEmpty||sh.size==k)=true:=by
 rcases hs with rfl|rfl
 . rfl
 . simp
theorem qco (h:1<=n){f:Bool}{sh:Sh}{l:List AV}(hs:l=[]\/sh.size=146):call gl tab n 56 [.lst f sh l] []=some (.lst true sh l,[],[]):=by
 obtain⟨d,rfl⟩:=wA h
 have t:=wJ (wB l.length)
 have hz:=z82 hs
 rw[zad (fd:=fd56) rfl]
 simp(disch:=apply zq;omega) only[go_sem,simprocAttr,↓Nat.reduceEqDiff,xx,fd56,m56,t,wC,wR,hz]
theorem z7h (h:1<=n){f:Bool}{sh:Sh}{l:List AV}(hs:l=[]\/sh.size=37):call gl tab n 62 [.lst f sh l] []=some (.lst true sh l,[],[]):=by
 obtain⟨d,rfl⟩:=wA h
 have t:=wJ (wB l.length)
 have hz:=z82 hs
 rw[zad (fd:=fd62) rfl]
 simp(disch:=apply zq;omega) only[go_sem,simprocAttr,↓Nat.reduceEqDiff,xx,fd62,m62,t,wC,wR,hz]
def Sr (l:List Rv)(sh:Sh):Prop:=l=[]\/sh=sRe
abbrev ldAV (s:Int)(f:Bool)(sh:Sh)(l:List Rv)(z:Int)(f2:Bool)(sh2:Sh)(t:List Dg)(f3:Bool)(sh3:Sh)(U:List AV):AV:=.agg [i64 s,.lst f sh (rvs l),.agg [i64 z,.lst f2 sh2 (dgL t)],.lst f3 sh3 U]
section
variable {s :Int} {f f2 f3:Bool} {sh sh2 sh3:Sh} {l:List Rv} {t:List Dg} {U:List AV}
theorem z27 (h:1<=n){z:Int}{x:Rv}(hx:RvOk gl x)(hl:l.length<=1000000)(hb:¬(x.site=s/\x.seq=l.length)) :
  call gl tab n 16 [ldAV s f sh l z f2 sh2 t f3 sh3 U,rvAV x] []=some (.tup [ldAV s f sh l z f2 sh2 t f3 sh3 U,i64 1],[],[]):=by
 obtain⟨d,rfl⟩:=wA h
 have h1:=hx.sh
 have hL:=zaz l
 rw[zad (fd:=fd16) rfl]
 by_cases e1:x.site=s
 . have e2:(x.seq != (l.length:Int))=true:=by rw[bne_iff_ne];exact fun e=>hb ⟨e1,e⟩
   have e1:(x.site != s)=false:=by rw[e1];exact bne_self_eq_false _
   simp(disch:=apply zq;omega) only[go_sem,simprocAttr,↓Nat.reduceEqDiff,xx,fd16,m16,↓out16_eq,h1,hL,e1,e2,H.oo]
 . have e1:(x.site != s)=true:=by rw[bne_iff_ne];exact e1
   simp(disch:=apply zq;omega) only[go_sem,simprocAttr,↓Nat.reduceEqDiff,xx,fd16,m16,↓out16_eq,h1,hL,e1,H.oo]
theorem z8o [Nonempty (GlK gl)][Nonempty (M.GlB gl)](h:15<=n){z:Nat}{x:Rv}(hx:RvOk gl x)(hl:l.length<60000)(hs:Sr l sh)(e1:x.site=s)(e2:x.seq=l.length)
  (ht:t.length<=1000000) (ha:All16 t) (hs2:Sd t sh2 sB) (hz:z<1099511627776) (hF:M.Form z t) :
  call gl tab n 16 [ldAV s f sh l z f2 sh2 t f3 sh3 U,rvAV x] []=some (.tup [ldAV s false sRe (l++[x]) (z+1:Nat) false sB (grw z t x.f) f3 sh3 U,i64 0],[],[]):=by
 obtain⟨d,rfl⟩:=wA h
 have h1:=hx.sh
 have h2:=hx.l (d+14) (by omega)
 have hL:=zaz l
 have c:=@M.append_ok gl (d+14) _ _ (by omega) z f2 sh2 t x.f hx.f ht ha hs2 hz hF
 have k:=@qco gl (d+14) (by omega) f sh (rvs l) (by
  rcases hs with rfl|rfl
  . exact .inl rfl
  . exact .inr rfl)
 have e1:(x.site != s)=false:=by rw[e1];exact bne_self_eq_false _
 have e2:(x.seq != (l.length:Int))=false:=by rw[e2];exact bne_self_eq_false _
 have hA:=zzm l x
 have q:=H.bytes_all x.f
 have q2:=b16 hx.f
 have hLim:l.length+1<=LIM:=by unfold LIM;omega
 rw[zad (fd:=fd16) rfl]
 show _=some (AV.tup [.agg [i64 s,.lst false sRe (rvs (l++[x])),.agg [i64 (z+1:Nat),.lst false sB (dgL (grw z t x.f))],.lst f3 sh3 U],i64 0],[],[])
 rw[<-hA]
 have hLim0:0+1<=LIM:=by unfold LIM;omega
 have hLim1:0<=LIM:=by unfold LIM;omega
 rcases hs with rfl|rfl
 . have hI:rvs []=[]:=rfl
   rw[hI]at k
   simp(disch:=apply zq;omega) only[go_sem,simprocAttr,↓Nat.reduceEqDiff,xx,fd16,m16,↓out16_eq,h1,h2,hI,wL,e1,e2,c,k,q,q2,hLim0,hLim1,H.oo]
 . simp(disch:=apply zq;omega) only[go_sem,simprocAttr,↓Nat.reduceEqDiff,xx,fd16,m16,↓out16_eq,h1,h2,hL,e1,e2,c,k,q,q2,hLim,H.oo]
   rw[wJ (by rw[List.length_append,hL];exact wB _)]
end
end Go.Proofs.S44.L
