/-
  Chapter 3: the root that peaks stand for, as specified. No condition.
-/
import Derived.Test.YthelhoikbegjlaaDoorW03G22x8
set_option linter.unusedVariables false
set_option linter.unusedSimpArgs false
set_option linter.unusedSectionVars false
namespace Go.Proofs.S03
open Go Go.Ev Go.Proofs Go.Mk
open Go.Proofs.S03.H (GlK GlR)
variable {gl :Gl} {n:Nat}
theorem pcn_zero :∀(c x:Nat),x<=c->pcn x=0->x=0
 | 0,x,h,_=>by omega
 | c+1,x,h,h0=>by
   have h1:=pcn_two x
   have:=pcn_zero c (x/2) (by omega) (by omega)
   omega
theorem form_nil {z:Int}(h:Form z []):z=0:=by
 have h1:=pcn_zero _ z.toNat (Nat.le_refl _) (by have:=h.2.2;simp at this;omega)
 have:=h.1
 omega
theorem form_ne {z:Int}{t:List Dg}(h:Form z t)(ht:t≠[]):z≠0:=by
 intro h0;subst h0
 have:=h.2.2
 rw[show(0:Int).toNat=0 from rfl,pcn_0]at this
 exact ht (List.length_eq_zero_iff.1 this)
abbrev rT (d:Dg)(e:Int):AV:=.agg [bAV d,i64 e]
theorem rtop_bad (h:4<=n){z:Int}{f:Bool}{sh:Sh}{t:List Dg}(hl:t.length<=1000000)(hz:-9223372036854775808<=z/\z<=9223372036854775807)(hF:¬Form z t) :
  call gl tab n 31 [pkAV z f sh t] []=some (rT z16 3,[],[]):=by
 obtain⟨d,rfl⟩:=Nat.exists_eq_add_of_le' h
 have c:=@rform_at gl (d+3) (by omega) z f sh t hl hz
 rw[decide_eq_false hF]at c
 show _=some (AV.agg [AV.agg (bytesAV z16),_],_,_)
 rw[<-z16_av]
 rw[call_go (fd:=fd31) rfl]
 simp(disch:=((fail_if_success (intro _));omega)) only[go_sem,simprocAttr,↓reduceIte,↓Nat.reduceEqDiff,xx,fd31,m31,↓out16_eq,H.out16_len,H.out16_all,H.out16_pl,c]
section
variable [Nonempty (GlR gl)]
theorem rtop_nil (h:12<=n){z:Int}{f:Bool}{sh:Sh}(hF:Form z []) :
  call gl tab n 31 [pkAV z f sh []] []=some (rT em 0,[],[]):=by
 obtain⟨d,rfl⟩:=Nat.exists_eq_add_of_le' h
 obtain rfl:=form_nil hF
 have c:=@rform_at gl (d+11) (by omega) 0 f sh [] (by simp) (by omega)
 rw[decide_eq_true hF]at c
 have e:=@rempty_at gl (d+11) _ (by omega)
 have e1:=em_len
 have e2:=H.bytes_all em
 generalize em=q at *
 replace c:call gl tab (d+11) 58 [.agg [i64 0,.lst f sh []]] []=some (.bool true,[],[]):=c
 show call gl tab (d+12) 31 [.agg [i64 0,.lst f sh []]] []=_
 rw[call_go (fd:=fd31) rfl]
 simp(disch:=((fail_if_success (intro _));omega)) only[go_sem,simprocAttr,↓reduceIte,↓Nat.reduceEqDiff,xx,fd31,m31,↓out16_eq,H.out16_len,H.out16_all,H.out16_pl,c,e,e1,e2,H.noImms_bytesAV]
def L31 :MC:=match m31 with| .seq _ (.seq _ (.seq _ (.seq _ (.seq _ (.seq (.seq _ (.block _ (.loop _ b))) _)))))=>b|_=>.skip
def S31 (z:Int)(f:Bool)(t:List Dg)(i:Nat):St :=
 ⟨[.set 5 (i64 ((t.length:Int)-2-i)),.set 4 (.ptr 4 []),.set 2 (.ptr 2 []),.set 1 (.ptr 1 [])],[(4,cD (bk (t.dropLast.drop (t.length-1-i)) (t.getLastD z16))),(2,.fix (.st [.ar 16 .sc,.sc]) (.agg [.agg H.out16l,i64 0])),(1,.fix (.st [.sc,.sc]) (pkAV z f sB t))]⟩
theorem step31 {k:Nat}(hk:8<=k){z:Int}{f:Bool}{t:List Dg}{i:Nat}(hi:i<t.length-1)(hl:t.length<=1000000)(ha:All16 t) :
  contK [.slot 1,.slot 2,.slot 4,.slot 5,.key 1,.key 2,.key 4] (evC gl (call gl tab k) L31 (S31 z f t i))=some (S31 z f t (i+1)):=by
 have hL:=dgL_length t
 have hA:=dgL_at (l:=t) (i:=t.length-2-i) (by omega)
 have q1:=ha.at (i:=t.length-2-i) (by omega)
 have hb:=@bk_drop t.dropLast (t.getLastD z16) (t.length-2-i) (by rw[List.length_dropLast];omega)
 have hd:dgA t.dropLast (t.length-2-i)=dgA t (t.length-2-i):=by
  rw[dgA,dgA,List.getD_eq_getElem?_getD,List.getD_eq_getElem?_getD,List.dropLast_eq_take,List.getElem?_take_of_lt (by omega)]
 rw[hd]at hb
 have hq:=bk_len (t.dropLast.drop (t.length-2-i+1)) (getLastD_len ha)
 have q2:=H.bytes_all (dgA t (t.length-2-i))
 have hq2:=H.bytes_all (bk (t.dropLast.drop (t.length-2-i+1)) (t.getLastD z16))
 have c:=@rnode_at gl k _ (by omega) _ _ q1 hq
 have c3:=nd_len (dgA t (t.length-2-i)) (bk (t.dropLast.drop (t.length-2-i+1)) (t.getLastD z16))
 have c4:=H.bytes_all (nd (dgA t (t.length-2-i)) (bk (t.dropLast.drop (t.length-2-i+1)) (t.getLastD z16)))
 rw[<-hb]at c c3 c4
 rw[show t.length-2-i+1=t.length-1-i by omega]at c hq hq2
 rw[S31,S31,show t.length-1-(i+1)=t.length-2-i by omega]
 have e1:(t.length:Int)-2-(i:Int)=((t.length-2-i:Nat):Int):=by omega
 have e2:(t.length:Int)-2-((i+1:Nat):Int)=((t.length-2-i:Nat):Int)-1:=by omega
 rw[e1,e2]
 clear hb hd e1 e2
 generalize bk (t.dropLast.drop (t.length-1-i)) (t.getLastD z16)=d1 at *
 generalize bk (t.dropLast.drop (t.length-2-i)) (t.getLastD z16)=d2 at *
 generalize dgA t (t.length-2-i)=x at *
 have hj:t.length-2-i<t.length:=by omega
 generalize t.length-2-i=j at *
 simp(disch:=((fail_if_success (intro _));omega)) only[go_sem,simprocAttr,↓reduceIte,↓Nat.reduceEqDiff,xx,L31,m31,hL,hA,q1,q2,hq,hq2,c,c3,c4,sB_size]
theorem rtop_ok (h:14<=n){z:Int}{f:Bool}{t:List Dg}(hl:t.length<=1000000)(ha:All16 t)(ht:t≠[])(hz:-9223372036854775808<=z/\z<=9223372036854775807)(hF:Form z t) :
  call gl tab n 31 [pkAV z f sB t] []=some (rT (topV t) 0,[],[]):=by
 obtain⟨d,rfl⟩:=Nat.exists_eq_add_of_le' h
 have c:=@rform_at gl (d+13) (by omega) z f sB t hl hz
 rw[decide_eq_true hF]at c
 have hz0:=form_ne hF ht
 rw[topV_some ht]
 have h1:=List.length_pos_iff.2 ht
 have hL:=dgL_length t
 have hA:=dgL_at (l:=t) (i:=t.length-1) (by omega)
 have q1:=getLastD_len ha
 rw[getLastD_at z16 ht]at hA
 have q2:=H.bytes_all (t.getLastD z16)
 have e1:((t.length:Int)-1)=((t.length-1:Nat):Int):=by omega
 have b3:=bk_len t.dropLast q1
 have b4:=H.bytes_all (bk t.dropLast (t.getLastD z16))
 have st:=fun i hi=>@step31 gl _ (d+13) (by omega) z f t i hi hl ha
 simp only[L31,m31]at st
 have eN:S31 z f t (t.length-1)=⟨[.set 5 (i64 (-1)),.set 4 (.ptr 4 []),.set 2 (.ptr 2 []),.set 1 (.ptr 1 [])],[(4,cD (bk t.dropLast (t.getLastD z16))),(2,.fix (.st [.ar 16 .sc,.sc]) (.agg [.agg H.out16l,i64 0])),(1,.fix (.st [.sc,.sc]) (pkAV z f sB t))]⟩:=by
  rw[S31,Nat.sub_self,List.drop_zero,show(t.length:Int)-2-((t.length-1:Nat):Int)=-1 by omega]
 have e0:S31 z f t 0=⟨[.set 5 (i64 ((t.length:Int)-2)),.set 4 (.ptr 4 []),.set 2 (.ptr 2 []),.set 1 (.ptr 1 [])],[(4,cD (t.getLastD z16)),(2,.fix (.st [.ar 16 .sc,.sc]) (.agg [.agg H.out16l,i64 0])),(1,.fix (.st [.sc,.sc]) (pkAV z f sB t))]⟩:=by
  rw[S31,Nat.sub_zero,<-List.length_dropLast,List.drop_length,show bk [] (t.getLastD z16)=t.getLastD z16 from rfl,show(t.length:Int)-2-((0:Nat):Int)=(t.length:Int)-2 by omega]
 rw[call_go (fd:=fd31) rfl]
 simp(disch:=((fail_if_success (intro _));omega)) only[go_sem,simprocAttr,↓reduceIte,↓Nat.reduceEqDiff,xx,fd31,m31,↓out16_eq,H.out16_len,H.out16_all,H.out16_pl,c,hL,hA,q1,q2,e1,sB_size,hz0]
 rw[iter_to (S31 z f t) (t.length-1) (by unfold LF;omega)]
 . rw[eN]
   generalize bk t.dropLast (t.getLastD z16)=q at *
   simp(disch:=((fail_if_success (intro _));omega)) only[go_sem,simprocAttr,↓reduceIte,↓Nat.reduceEqDiff,xx,b3,b4,H.out16_len,H.out16_all,H.out16_pl,H.noImms_bytesAV]
 . rw[e0]
   generalize t.getLastD z16=r at *
   simp(disch:=((fail_if_success (intro _));omega)) only[go_sem,simprocAttr,↓reduceIte,↓Nat.reduceEqDiff,xx]
 . exact st
 . rw[eN];simp(disch:=((fail_if_success (intro _));omega)) only[go_sem,simprocAttr,↓reduceIte,↓Nat.reduceEqDiff,xx]
end
end Go.Proofs.S03
namespace Go.Proofs.S03
open Go Go.Ev Go.Proofs Go.Mk
open Go.Proofs.S03.H (GlK GlR)
variable {gl :Gl} {n:Nat}
theorem clone_at (h:1<=n){f:Bool}{sh:Sh}{t:List Dg}(hl:t.length<=1000000)(hs:Sd t sh sB) :
  call gl tab n 57 [.lst f sh (dgL t)] []=some (.sl 20000 [] 0 t.length,[],[.grow sB (dgL t)]):=by
 obtain⟨d,rfl⟩:=Nat.exists_eq_add_of_le' h
 have h1:t.length<=LIM:=by unfold LIM;omega
 rw[call_giv (fd:=fd57) rfl rfl]
 rcases hs with rfl|rfl
 . simp[cloneG,dgL_nil]
 . simp[cloneG,dgL_length,h1,Sh.beq,Sh.beqs]
def grw (s:Nat)(t:List Dg)(leaf:Dg):List Dg:=t.take (t.length-tr1 s)++[bk (t.drop (t.length-tr1 s)) leaf]
theorem append_bad (h:4<=n){z:Int}{f:Bool}{sh:Sh}{t:List Dg}{leaf:Dg}(hf:leaf.length=16)(hl:t.length<=1000000)(hz:-9223372036854775808<=z/\z<=9223372036854775807)(hF:¬Form z t) :
  call gl tab n 28 [pkAV z f sh t,bAV leaf] []=some (.tup [.agg [i64 0,nilA],i64 3],[],[]):=by
 obtain⟨d,rfl⟩:=Nat.exists_eq_add_of_le' h
 have c:=@form_at gl (d+3) (by omega) z f sh t hl hz
 rw[decide_eq_false hF]at c
 have l1:=b16t hf
 have l2:=H.bytes_all leaf
 rw[call_go (fd:=fd28) rfl]
 simp(disch:=((fail_if_success (intro _));omega)) only[go_sem,simprocAttr,↓reduceIte,↓Nat.reduceEqDiff,xx,fd28,m28,↓out16_eq,H.out16_len,H.out16_all,H.out16_pl,c,hf,l1,l2]
theorem append_lim (h:4<=n){f:Bool}{sh:Sh}{t:List Dg}{leaf:Dg}(hf:leaf.length=16)(hl:t.length<=1000000)(hF:Form 1099511627776 t) :
  call gl tab n 28 [pkAV 1099511627776 f sh t,bAV leaf] []=some (.tup [.agg [i64 0,nilA],i64 2],[],[]):=by
 obtain⟨d,rfl⟩:=Nat.exists_eq_add_of_le' h
 have c:=@form_at gl (d+3) (by omega) 1099511627776 f sh t hl (by omega)
 rw[decide_eq_true hF]at c
 have l1:=b16t hf
 have l2:=H.bytes_all leaf
 rw[call_go (fd:=fd28) rfl]
 simp(disch:=((fail_if_success (intro _));omega)) only[go_sem,simprocAttr,↓reduceIte,↓Nat.reduceEqDiff,xx,fd28,m28,↓out16_eq,H.out16_len,H.out16_all,H.out16_pl,c,hf,l1,l2]
theorem rappend_bad (h:4<=n){z:Int}{f:Bool}{sh:Sh}{t:List Dg}{leaf:Dg}(hf:leaf.length=16)(hl:t.length<=1000000)(hz:-9223372036854775808<=z/\z<=9223372036854775807)(hF:¬Form z t) :
  call gl tab n 30 [pkAV z f sh t,bAV leaf] []=some (.agg [.agg [i64 0,nilA],i64 3],[],[]):=by
 obtain⟨d,rfl⟩:=Nat.exists_eq_add_of_le' h
 have c:=@rform_at gl (d+3) (by omega) z f sh t hl hz
 rw[decide_eq_false hF]at c
 have l1:=b16t hf
 have l2:=H.bytes_all leaf
 rw[call_go (fd:=fd30) rfl]
 simp(disch:=((fail_if_success (intro _));omega)) only[go_sem,simprocAttr,↓reduceIte,↓Nat.reduceEqDiff,xx,fd30,m30,↓out16_eq,H.out16_len,H.out16_all,H.out16_pl,c,hf,l1,l2]
theorem rappend_lim (h:4<=n){f:Bool}{sh:Sh}{t:List Dg}{leaf:Dg}(hf:leaf.length=16)(hl:t.length<=1000000)(hF:Form 1099511627776 t) :
  call gl tab n 30 [pkAV 1099511627776 f sh t,bAV leaf] []=some (.agg [.agg [i64 0,nilA],i64 2],[],[]):=by
 obtain⟨d,rfl⟩:=Nat.exists_eq_add_of_le' h
 have c:=@rform_at gl (d+3) (by omega) 1099511627776 f sh t hl (by omega)
 rw[decide_eq_true hF]at c
 have l1:=b16t hf
 have l2:=H.bytes_all leaf
 rw[call_go (fd:=fd30) rfl]
 simp(disch:=((fail_if_success (intro _));omega)) only[go_sem,simprocAttr,↓reduceIte,↓Nat.reduceEqDiff,xx,fd30,m30,↓out16_eq,H.out16_len,H.out16_all,H.out16_pl,c,hf,l1,l2]
theorem not_u (y:BitVec 64):BitVec.ofInt 64 (if IntKind.u64.signed=true then -1 else IntKind.u64.max)^^^y= ~~~ y:=by
 rw[show BitVec.ofInt 64 (if IntKind.u64.signed=true then -1 else IntKind.u64.max)=BitVec.allOnes 64 from by decide +kernel]
 exact BitVec.allOnes_xor
section
variable [Nonempty (GlK gl)] [Nonempty (GlB gl)]
theorem append_ok (h:14<=n){s:Nat}{f:Bool}{sh:Sh}{t:List Dg}{leaf:Dg}(hf:leaf.length=16)(hl:t.length<=1000000)(ha:All16 t)(hs:Sd t sh sB)(hz:s<1099511627776)(hF:Form s t) :
  call gl tab n 28 [pkAV s f sh t,bAV leaf] []=some (.tup [.agg [i64 (s+1:Nat),.lst false sB (dgL (grw s t leaf))],i64 0],[],[]):=by
 obtain⟨d,rfl⟩:=Nat.exists_eq_add_of_le' h
 have c:=@form_at gl (d+13) (by omega) s f sh t hl (by omega)
 rw[decide_eq_true hF]at c
 have hle:tr1 s<=t.length:=by have h1:=tr1_le s s (Nat.le_refl _);have h2:=hF.2.2;rw[Int.toNat_natCast]at h2;omega
 have l1:=b16t hf
 have l2:=H.bytes_all leaf
 have tz:=@trail_at gl (d+13) _ (by omega) s (by omega)
 have hL:=dgL_length t
 have hT:=dgL_all t
 have hs1:Sd (t.take (t.length-tr1 s)) sh sB:=by rcases hs with rfl|h0;exact Or.inl (by simp);exact Or.inr h0
 have hs2:Sd (t.drop (t.length-tr1 s)) sh sB:=hs.drop _
 have k1:=fun f'=>@clone_at gl (d+13) (by omega) f' sh (t.take (t.length-tr1 s)) (by rw[List.length_take];omega) hs1
 have b1:=fun f'=>@backward_at gl (d+13) (by omega) f' sh (t.drop (t.length-tr1 s))
 have b2:=fun f'=>@all72_280 gl (d+13) _ (by omega) f' sh (t.drop (t.length-tr1 s)) leaf (by rw[List.length_drop];omega) (ha.drop _) hf hs2
 have b3:=bk_len (t.drop (t.length-tr1 s)) hf
 have b4:=H.bytes_all (bk (t.drop (t.length-tr1 s)) leaf)
 have b5:=H.noImms_bytesAV (bk (t.drop (t.length-tr1 s)) leaf)
 have n1:=dgL_noImms (t.take (t.length-tr1 s))
 have hk:(t.take (t.length-tr1 s)).length=t.length-tr1 s:=by rw[List.length_take];omega
 have hkL:=dgL_length (t.take (t.length-tr1 s))
 have hkT:=dgL_all (t.take (t.length-tr1 s))
 rw[hk]at k1 hkL hkT
 rw[grw,dgL_app]
 have ej:(t.length:Int)-(tr1 s:Int)=((t.length-tr1 s:Nat):Int):=by omega
 have es:BitVec.ofInt 64 (s:Int)=BitVec.ofNat 64 s:=BitVec.ofInt_natCast ..
 have hlim:t.length+1<=LIM:=by unfold LIM;omega
 have hs':((s+1:Nat):Int)=(s:Int)+1:=by omega
 rw[hs']
 have hj:t.length-tr1 s<=t.length:=Nat.sub_le _ _
 have hcv:IntKind.wrap .u64 (s:Int)=(s:Int):=by rw[wrap_u64,BitVec.ofInt_natCast,BitVec.toNat_ofNat,Nat.mod_eq_of_lt (by omega)]
 simp only[<-dgL_take,<-dgL_drop]at k1 b1 b2 n1 hkL hkT ⊢
 clear hF hs1 hs2
 generalize tr1 s=j0 at *
 generalize bk (t.drop (t.length-j0)) leaf=q at *
 generalize hjj:t.length-j0=j at *
 have hT2:List.take (j+1) (List.take j (dgL t)++[AV.agg (bytesAV q)])=List.take j (dgL t)++[AV.agg (bytesAV q)]:=List.take_of_length_le (by simp[hkL])
 rcases hs with h0|h0
 . subst h0
   obtain rfl:j=0:=by simpa using hj
   obtain rfl:j0=0:=by simpa using hle
   simp only[dgL_nil,List.take_nil,List.drop_nil,List.nil_append,List.length_nil]at *
   replace c:call gl tab (d+13) 54 [.agg [i64 s,.lst f sh []]] []=some (.bool true,[],[]):=c
   show call gl tab (d+14) 28 [.agg [i64 s,.lst f sh []],bAV leaf] []=_
   rw[call_go (fd:=fd28) rfl]
   simp(maxSteps:=1000000) (disch:=((fail_if_success (intro _));omega)) only[go_sem,simprocAttr,↓reduceIte,↓Nat.reduceEqDiff,xx,fd28,m28,↓out16_eq,H.out16_len,H.out16_all,H.out16_pl,↓not_u64,c,hf,l1,l2,tz,es,k1,b1,b2,b3,b4,b5,n1,hT2,sB_size]
 . subst h0
   rw[call_go (fd:=fd28) rfl]
   simp(maxSteps:=1000000) (disch:=((fail_if_success (intro _));omega)) only[go_sem,simprocAttr,↓reduceIte,↓Nat.reduceEqDiff,xx,fd28,m28,↓out16_eq,H.out16_len,H.out16_all,H.out16_pl,↓not_u64,c,hf,l1,l2,not_u,tz,ej,es,hL,hT,k1,b1,b2,b3,b4,b5,n1,hkL,hkT,hT2,sB_size]
end
end Go.Proofs.S03
namespace Go.Proofs.S03
open Go Go.Ev Go.Proofs Go.Mk
theorem topV_tpF :∀t:List Dg,topV t=tpF nd em t
 | []=>rfl
 | [d]=>rfl
 | d::e::l=>by
   have ih:=topV_tpF (e::l)
   rw[tpF,<-ih,topV_some (by simp),topV_some (by simp)]
   rfl
theorem jns_take (z:Dg):∀(k:Nat) (t:List Dg) (d:Dg),k<=t.length->jns nd z k (t,d)=(t.take (t.length-k),bk (t.drop (t.length-k)) d)
 | 0,t,d,h=>by rw[jns,Nat.sub_zero,List.take_length,List.drop_length];rfl
 | k+1,t,d,h=>by
   have hn:t≠[]:=List.length_pos_iff.1 (by omega)
   rw[jns,jn]
   simp only
   rw[jns_take z k _ _ (by rw[List.length_dropLast];omega)]
   rw[List.length_dropLast,show t.length-1-k=t.length-(k+1) by omega,List.dropLast_eq_take,List.take_take,Nat.min_eq_left (by omega)]
   congr 1
   have e:t.drop (t.length-(k+1))=(t.take (t.length-1)).drop (t.length-(k+1))++[t.getLastD z]:=by
    have h1:t=t.take (t.length-1)++[t.getLastD z]:=by
     rw[<-List.dropLast_eq_take,List.getLastD_eq_getLast?,List.getLast?_eq_some_getLast hn,Option.getD_some,List.dropLast_concat_getLast]
    conv=>lhs;rw[h1]
    rw[List.drop_append_of_le_length (by rw[List.length_take,<-h1];omega)]
    rw[<-h1]
   rw[e,bk,bk,List.foldr_append]
   rfl
theorem grw_jns (z:Dg){s:Nat}{t:List Dg}{d:Dg}(h:tr1 s<=t.length):grw s t d=(jns nd z (tr1 s) (t,d)).1++[(jns nd z (tr1 s) (t,d)).2]:=by
 rw[jns_take z _ _ _ h];rfl
end Go.Proofs.S03
