/-
  Chapter 3: peaks that grow, as specified. No condition.
-/
import Derived.Test.YthelhoikbegjlaaDoorW03G23x8
set_option linter.unusedVariables false
set_option linter.unusedSimpArgs false
set_option linter.unusedSectionVars false
namespace Go.Proofs.S03
open Go Go.Ev Go.Proofs Go.Mk
open Go.Proofs.S03.H (GlK GlR)
variable {gl :Gl} {n:Nat}
theorem tr1_half :∀(i s:Nat),i<tr1 s->s/2^i%2=1
 | 0,s,h=>by
   rw[Nat.pow_zero,Nat.div_one]
   by_cases h1:s%2=1
   . exact h1
   . rw[tr1_e (by omega)]at h;omega
 | i+1,s,h=>by
   have h1:s%2=1:=by
    by_cases h1:s%2=1
    . exact h1
    . rw[tr1_e (by omega)]at h;omega
   rw[tr1_o h1]at h
   rw[Nat.pow_succ,Nat.mul_comm,<-Nat.div_div_eq_div_mul]
   exact tr1_half i (s/2) (by omega)
theorem tr1_stop :∀(c s:Nat),s<=c->s/2^tr1 s%2=0
 | c,s,h=>by
   by_cases h1:s%2=1
   . match c,h with
     | 0,h=>omega
     | c+1,h =>
       rw[tr1_o h1,Nat.pow_succ,Nat.mul_comm,<-Nat.div_div_eq_div_mul]
       exact tr1_stop c (s/2) (by omega)
   . rw[tr1_e (by omega),Nat.pow_zero,Nat.div_one];omega
section
variable [Nonempty (GlR gl)]
def L30 :MC:=match m30 with| .seq _ (.seq _ (.seq _ (.seq _ (.seq _ (.seq _ (.seq (.seq _ (.block _ (.loop _ b))) _))))))=>b|_=>.skip
abbrev zG :OB:=.fix (.st [.st [.sc,.sc],.sc]) (.agg [.agg [i64 0,nilA],i64 0])
def S30 (s:Nat)(f:Bool)(sh:Sh)(t:List Dg)(leaf:Dg)(i:Nat):St :=
 ⟨[.set 8 (i64 ((s/2^i:Nat):Int)),.set 7 (.ptr 7 []),.set 6 (.sl 5006 [] 0 (t.length-i)),.set 4 (.ptr 4 []),.set 2 (.ptr 2 [])],
   [(7,cD (bk (t.drop (t.length-i)) leaf)),(4,zG),(2,.fix (.st [.sc,.sc]) (pkAV s f sh t)),(5006,.grow sB (dgL (t.take (t.length-i))))]⟩
theorem step30 {k:Nat}(hk:8<=k){s:Nat}{f:Bool}{sh:Sh}{t:List Dg}{leaf:Dg}{i:Nat}(hi:i<tr1 s)(hle:tr1 s<=t.length)(hl:t.length<=1000000)(ha:All16 t)(hf:leaf.length=16)(hs:s<=1099511627776) :
  contK [.slot 2,.slot 4,.own 6 5006 (.ar 16 .sc),.slot 7,.slot 8,.key 2,.key 4,.key 7] (evC gl (call gl tab k) L30 (S30 s f sh t leaf i))=some (S30 s f sh t leaf (i+1)):=by
 have h1:=tr1_half i s hi
 have em:=rem2 (s/2^i)
 have hsb:s/2^i<=s:=Nat.div_le_self _ _
 have ed:=quo2 (y:=s/2^i) (by omega)
 rw[h1]at em
 rw[Nat.div_div_eq_div_mul,<-Nat.pow_succ]at ed
 have hj:t.length-(i+1)<t.length:=by omega
 have hb:=@bk_drop t leaf (t.length-(i+1)) hj
 rw[show t.length-(i+1)+1=t.length-i by omega]at hb
 have hA:(dgL (t.take (t.length-i)))[t.length-(i+1)]? =some (.agg (bytesAV (dgA t (t.length-(i+1))))):=by
  rw[<-dgL_take,List.getElem?_take_of_lt (by omega)];exact dgL_at hj
 have hT:List.take (t.length-(i+1)) (dgL (t.take (t.length-i)))=dgL (t.take (t.length-(i+1))):=by
  rw[dgL_take,List.take_take,Nat.min_eq_left (by omega)]
 have hL:(dgL (t.take (t.length-i))).length=t.length-i:=by rw[dgL_length,List.length_take];omega
 have hL2:(dgL (t.take (t.length-(i+1)))).length=t.length-(i+1):=by rw[dgL_length,List.length_take];omega
 have hT2:List.take (t.length-(i+1)) (dgL (t.take (t.length-(i+1))))=dgL (t.take (t.length-(i+1))):=List.take_of_length_le (by omega)
 have q1:=ha.at hj
 have hq:=bk_len (t.drop (t.length-i)) hf
 have q2:=H.bytes_all (dgA t (t.length-(i+1)))
 have hq2:=H.bytes_all (bk (t.drop (t.length-i)) leaf)
 have c:=@rnode_at gl k _ (by omega) _ _ q1 hq
 have c3:=nd_len (dgA t (t.length-(i+1))) (bk (t.drop (t.length-i)) leaf)
 have c4:=H.bytes_all (nd (dgA t (t.length-(i+1))) (bk (t.drop (t.length-i)) leaf))
 have c5:=H.noImms_bytesAV (nd (dgA t (t.length-(i+1))) (bk (t.drop (t.length-i)) leaf))
 have n1:=dgL_noImms (t.take (t.length-(i+1)))
 rw[<-hb]at c c3 c4 c5
 have e1:((t.length-i:Nat):Int)-1=((t.length-(i+1):Nat):Int):=by omega
 have hlim:t.length-(i+1)<=LIM:=by unfold LIM;omega
 have hij:t.length-i=t.length-(i+1)+1:=by omega
 rw[S30,S30]
 clear hb h1
 generalize bk (t.drop (t.length-i)) leaf=d1 at *
 generalize bk (t.drop (t.length-(i+1))) leaf=d2 at *
 generalize dgA t (t.length-(i+1))=x at *
 generalize dgL (t.take (t.length-i))=l1 at *
 generalize dgL (t.take (t.length-(i+1)))=l2 at *
 generalize s/2^(i+1)=y2 at *
 generalize s/2^i=y1 at *
 generalize t.length-(i+1)=j at *
 generalize t.length-i=j1 at *
 simp(disch:=((fail_if_success (intro _));omega)) only[go_sem,simprocAttr,↓reduceIte,↓Nat.reduceEqDiff,xx,L30,m30,hL,hL2,hA,hT,hT2,q1,q2,hq,hq2,c,c3,c4,c5,n1,em,ed,e1,sB_size,H.noImms_bytesAV,Nat.sub_zero]
theorem rappend_ok (h:14<=n){s:Nat}{f:Bool}{sh:Sh}{t:List Dg}{leaf:Dg}(hf:leaf.length=16)(hl:t.length<=1000000)(ha:All16 t)(hs:Sd t sh sB)(hz:s<1099511627776)(hF:Form s t) :
  call gl tab n 30 [pkAV s f sh t,bAV leaf] []=some (.agg [.agg [i64 (s+1:Nat),.lst false sB (dgL (grw s t leaf))],i64 0],[],[]):=by
 obtain⟨d,rfl⟩:=Nat.exists_eq_add_of_le' h
 have c:=@rform_at gl (d+13) (by omega) s f sh t hl (by omega)
 rw[decide_eq_true hF]at c
 have hle:tr1 s<=t.length:=by have h1:=tr1_le s s (Nat.le_refl _);have h2:=hF.2.2;rw[Int.toNat_natCast]at h2;omega
 have l1:=b16t hf
 have l2:=H.bytes_all leaf
 have hL:=dgL_length t
 have hT:=dgL_all t
 have st:=fun i hi=>@step30 gl _ (d+13) (by omega) s f sh t leaf i hi hle hl ha hf (by omega)
 have stop:=rem2 (s/2^tr1 s)
 rw[tr1_stop s s (Nat.le_refl _)]at stop
 have hlim:t.length<=LIM:=by unfold LIM;omega
 have hlim2:t.length-tr1 s+1<=LIM:=by unfold LIM;omega
 have n0:=dgL_noImms t
 have hs':((s+1:Nat):Int)=(s:Int)+1:=by omega
 have e0:S30 s f sh t leaf 0=⟨[.set 8 (i64 s),.set 7 (.ptr 7 []),.set 6 (.sl 5006 [] 0 t.length),.set 4 (.ptr 4 []),.set 2 (.ptr 2 [])],
  [(7,cD leaf),(4,zG),(2,.fix (.st [.sc,.sc]) (pkAV s f sh t)),(5006,.grow sB (dgL t))]⟩:=by
  rw[S30,Nat.pow_zero,Nat.div_one,Nat.sub_zero,List.drop_length,List.take_length];rfl
 simp only[L30,m30]at st
 rw[hs',grw,dgL_app]
 have b3:=bk_len (t.drop (t.length-tr1 s)) hf
 have b4:=H.bytes_all (bk (t.drop (t.length-tr1 s)) leaf)
 have b5:=H.noImms_bytesAV (bk (t.drop (t.length-tr1 s)) leaf)
 have n1:=dgL_noImms (t.take (t.length-tr1 s))
 have hL2:(dgL (t.take (t.length-tr1 s))).length=t.length-tr1 s:=by rw[dgL_length,List.length_take];omega
 have hT2:List.take (t.length-tr1 s+1) (dgL (t.take (t.length-tr1 s))++[AV.agg (bytesAV (bk (t.drop (t.length-tr1 s)) leaf))])=dgL (t.take (t.length-tr1 s))++[AV.agg (bytesAV (bk (t.drop (t.length-tr1 s)) leaf))]:=List.take_of_length_le (by simp[hL2])
 have hT3:List.take (t.length-tr1 s) (dgL (t.take (t.length-tr1 s)))=dgL (t.take (t.length-tr1 s)):=List.take_of_length_le (by omega)
 have htl:=tr1_lt (s:=s) (by omega)
 rcases hs with h0|h0
 . subst h0
   obtain rfl:s=0:=by have:=form_nil hF;omega
   have ht0:tr1 0=0:=tr1_e rfl
   have eS:S30 0 f sh [] leaf 0=⟨[.set 8 (i64 0),.set 7 (.ptr 7 []),.set 6 (.sl 5006 [] 0 0),.set 4 (.ptr 4 []),.set 2 (.ptr 2 [])],
    [(7,cD leaf),(4,zG),(2,.fix (.st [.sc,.sc]) (.agg [i64 0,.lst f sh []])),(5006,.grow sB [])]⟩:=by
    rw[S30];simp[dgL_nil,bk]
   replace c:call gl tab (d+13) 58 [.agg [i64 0,.lst f sh []]] []=some (.bool true,[],[]):=c
   simp only[ht0,List.length_nil,Nat.sub_zero,List.take_nil,List.drop_nil,dgL_nil,bk,List.foldr_nil]
   show call gl tab (d+14) 30 [.agg [i64 0,.lst f sh []],bAV leaf] []=some (.agg [.agg [i64 (0+1),.lst false sB ([]++[.agg (bytesAV leaf)])],i64 0],[],[])
   have b5:=H.noImms_bytesAV leaf
   have l0:1<=LIM:=by unfold LIM;omega
   rw[call_go (fd:=fd30) rfl]
   simp(disch:=((fail_if_success (intro _));omega)) only[go_sem,simprocAttr,↓reduceIte,↓Nat.reduceEqDiff,xx,fd30,m30,↓out16_eq,H.out16_len,H.out16_all,H.out16_pl,c,l1,l2,hf,sB_size,H.noImms_bytesAV]
   rw[iter_to (S30 0 f sh [] leaf) 0 (by unfold LF;omega)]
   . rw[eS]
     have st0:binInt .rem .i64 0 2=some (i64 0):=rem2 0
     simp(disch:=((fail_if_success (intro _));omega)) only[go_sem,simprocAttr,↓reduceIte,↓Nat.reduceEqDiff,xx,st0,hf,l2,b5,sB_size,H.noImms_bytesAV]
   . rw[eS];simp(disch:=((fail_if_success (intro _));omega)) only[go_sem,simprocAttr,↓reduceIte,↓Nat.reduceEqDiff,xx]
   . intro i hi;omega
   . rw[eS]
     have st0:binInt .rem .i64 0 2=some (i64 0):=rem2 0
     simp(disch:=((fail_if_success (intro _));omega)) only[go_sem,simprocAttr,↓reduceIte,↓Nat.reduceEqDiff,xx,st0]
 . subst h0
   rw[call_go (fd:=fd30) rfl]
   simp(disch:=((fail_if_success (intro _));omega)) only[go_sem,simprocAttr,↓reduceIte,↓Nat.reduceEqDiff,xx,fd30,m30,↓out16_eq,H.out16_len,H.out16_all,H.out16_pl,c,l1,l2,hf,hL,hT,n0,sB_size,H.noImms_bytesAV]
   rw[iter_to (S30 s f sB t leaf) (tr1 s) (by unfold LF;omega)]
   . rw[S30]
     clear st e0 hF
     generalize bk (t.drop (t.length-tr1 s)) leaf=q at *
     generalize dgL (t.take (t.length-tr1 s))=l3 at *
     generalize s/2^tr1 s=y at *
     generalize t.length-tr1 s=j at *
     simp(disch:=((fail_if_success (intro _));omega)) only[go_sem,simprocAttr,↓reduceIte,↓Nat.reduceEqDiff,xx,stop,b3,b4,b5,n1,hL2,hT2,hT3,sB_size,H.noImms_bytesAV]
   . rw[e0];simp(disch:=((fail_if_success (intro _));omega)) only[go_sem,simprocAttr,↓reduceIte,↓Nat.reduceEqDiff,xx]
   . exact st
   . rw[S30]
     simp(disch:=((fail_if_success (intro _));omega)) only[go_sem,simprocAttr,↓reduceIte,↓Nat.reduceEqDiff,xx,stop]
end
end Go.Proofs.S03
namespace Go.Proofs.S03
open Go Go.Ev Go.Proofs Go.Mk
open Go.Proofs.S03.H (GlK GlR)
variable {gl :Gl} {n:Nat}
def L17 :MC:=match m17 with| .seq _ (.seq _ (.seq (.seq _ (.block _ (.loop _ b))) _))=>b|_=>.skip
def S17 (f f':Bool)(k k':Sh)(a:List Dg)(i:Nat):St:=⟨[.set 5 (i64 i),.set 1 (.lst f' k' (dgL a)),.set 0 (.lst f k (dgL a))],[]⟩
theorem same_at (h:1<=n){f f':Bool}{k k':Sh}{a:List Dg}(ha:All16 a)(hk:Sd a k sB)(hk':Sd a k' sB)(hl:a.length<=1000000):call gl tab n 17 [.lst f k (dgL a),.lst f' k' (dgL a)] []=some (.bool true,[],[]):=by
 obtain⟨d,rfl⟩:=Nat.exists_eq_add_of_le' h
 have hL:=dgL_length a
 have st:∀i,i<a.length->contK [.slot 0,.slot 1,.slot 5] (evC gl (call gl tab d) L17 (S17 f f' k k' a i))=some (S17 f f' k k' a (i+1)):=fun i hi=>by
  obtain rfl:k=sB:=by rcases hk with h0|h0;subst h0;simp at hi;exact h0
  obtain rfl:k'=sB:=by rcases hk' with h0|h0;subst h0;simp at hi;exact h0
  have hA:=dgL_at hi
  have q1:=ha.at hi
  have q2:=H.bytes_all (dgA a i)
  have e:=eqB q1 q1
  rw[decide_eq_true rfl]at e
  generalize dgA a i=x at *
  rw[S17,S17]
  simp(disch:=((fail_if_success (intro _));omega)) only[go_sem,simprocAttr,↓reduceIte,↓Nat.reduceEqDiff,xx,L17,m17,hL,hA,q1,q2,e,sB_size]
 simp only[L17,m17]at st
 rw[call_go (fd:=fd17) rfl]
 simp(disch:=((fail_if_success (intro _));omega)) only[go_sem,simprocAttr,↓reduceIte,↓Nat.reduceEqDiff,xx,fd17,m17,hL]
 rw[iter_to (S17 f f' k k' a) a.length (by unfold LF;omega)]
 . rw[S17];simp(disch:=((fail_if_success (intro _));omega)) only[go_sem,simprocAttr,↓reduceIte,↓Nat.reduceEqDiff,xx,hL]
 . rw[S17];simp(disch:=((fail_if_success (intro _));omega)) only[go_sem,simprocAttr,↓reduceIte,↓Nat.reduceEqDiff,xx]
 . exact st
 . rw[S17];simp(disch:=((fail_if_success (intro _));omega)) only[go_sem,simprocAttr,↓reduceIte,↓Nat.reduceEqDiff,xx,hL]
end Go.Proofs.S03
namespace Go.Proofs.S03
open Go Go.Ev Go.Proofs Go.Mk
theorem spl_2 :spl 2=1:=by decide
theorem spl_3 :spl 3=2:=by decide
variable (a b c:Dg)
theorem rt2 :rt nd em [a,b]=nd a b:=by
 rw[rt_two (by simp)]
 simp only[List.length_cons,List.length_nil,Nat.zero_add,Nat.reduceAdd,spl_2,List.take_succ_cons,List.take_zero,List.drop_succ_cons,List.drop_zero,rt_one]
theorem rt3 :rt nd em [a,b,c]=nd (nd a b) c:=by
 rw[rt_two (by simp)]
 simp only[List.length_cons,List.length_nil,Nat.zero_add,Nat.reduceAdd,spl_3,List.take_succ_cons,List.take_zero,List.drop_succ_cons,List.drop_zero,rt_one,rt2]
theorem incl2 :incl nd em [a,b] 0=[b]:=by
 rw[incl_lo (by simp) (by simp[spl_2])]
 simp only[List.length_cons,List.length_nil,Nat.zero_add,Nat.reduceAdd,spl_2,List.take_succ_cons,List.take_zero,List.drop_succ_cons,List.drop_zero,rt_one]
 rw[incl_one (by simp)];rfl
theorem incl3_0 :incl nd em [a,b,c] 0=[b,c]:=by
 rw[incl_lo (by simp) (by simp[spl_3])]
 simp only[List.length_cons,List.length_nil,Nat.zero_add,Nat.reduceAdd,spl_3,List.take_succ_cons,List.take_zero,List.drop_succ_cons,List.drop_zero,rt_one,incl2];rfl
theorem incl3_2 :incl nd em [a,b,c] 2=[nd a b]:=by
 rw[incl_hi (by simp) (by simp[spl_3])]
 simp only[List.length_cons,List.length_nil,Nat.zero_add,Nat.reduceAdd,spl_3,List.take_succ_cons,List.take_zero,List.drop_succ_cons,List.drop_zero,rt2]
 rw[incl_one (by simp)];rfl
theorem cons2 :cons nd em [a,b] 1 true=[b]:=by
 rw[cons_lo (by simp) (by simp) (by simp[spl_2])]
 simp only[List.length_cons,List.length_nil,Nat.zero_add,Nat.reduceAdd,spl_2,List.take_succ_cons,List.take_zero,List.drop_succ_cons,List.drop_zero,rt_one]
 have h:=@cons_all Dg nd em [a] true
 rw[show([a]:List Dg).length=1 from rfl,if_pos rfl]at h
 rw[h];rfl
theorem cons3_1 :cons nd em [a,b,c] 1 true=[b,c]:=by
 rw[cons_lo (by simp) (by simp) (by simp[spl_3])]
 simp only[List.length_cons,List.length_nil,Nat.zero_add,Nat.reduceAdd,spl_3,List.take_succ_cons,List.take_zero,List.drop_succ_cons,List.drop_zero,rt_one,cons2];rfl
theorem cons3_2 :cons nd em [a,b,c] 2 true=[c]:=by
 rw[cons_lo (by simp) (by simp) (by simp[spl_3])]
 simp only[List.length_cons,List.length_nil,Nat.zero_add,Nat.reduceAdd,spl_3,List.take_succ_cons,List.take_zero,List.drop_succ_cons,List.drop_zero,rt_one]
 have h:=@cons_all Dg nd em [a,b] true
 rw[show([a,b]:List Dg).length=2 from rfl,if_pos rfl]at h
 rw[h];rfl
end Go.Proofs.S03
namespace Go.Proofs.S03
open Go Go.Ev Go.Proofs Go.Mk
open Go.Proofs.S03.H (GlK GlR)
variable {gl :Gl} {n:Nat}
theorem rt_len16 {l:List Dg}(ha:All16 l):(rt nd em l).length=16:=rt_len ha
theorem incl_all :∀(c:Nat) (l:List Dg) (i:Nat),l.length<=c->All16 l->All16 (incl nd em l i)
 | 0,l,i,h,ha=>by rw[incl_one (by omega)];exact All16.nil
 | c+1,l,i,h,ha=>by
   by_cases h2:2<=l.length
   . have hk:=spl_lt h2
     have hp:=spl_pos l.length
     by_cases hi:i<spl l.length
     . rw[incl_lo h2 hi]
       exact(incl_all c _ i (by rw[List.length_take];omega) (ha.take _)).app (.one (rt_len (ha.drop _)))
     . rw[incl_hi h2 hi]
       exact(incl_all c _ _ (by rw[List.length_drop];omega) (ha.drop _)).app (.one (rt_len (ha.take _)))
   . rw[incl_one (by omega)];exact All16.nil
theorem cons_all16 :∀(c:Nat) (l:List Dg) (m:Nat) (mark:Bool),l.length<=c->1<=m->m<=l.length->All16 l->All16 (cons nd em l m mark)
 | 0,l,m,mark,h,h1,hm,ha=>by omega
 | c+1,l,m,mark,h,h1,hm,ha=>by
   by_cases he:m=l.length
   . subst he
     rw[cons_all];cases mark
     . exact .one (rt_len ha)
     . exact All16.nil
   . have h2:2<=l.length:=by omega
     have hk:=spl_lt h2
     have hp:=spl_pos l.length
     by_cases hi:m<=spl l.length
     . rw[cons_lo h2 he hi]
       exact(cons_all16 c _ m mark (by rw[List.length_take];omega) h1 (by rw[List.length_take];omega) (ha.take _)).app (.one (rt_len (ha.drop _)))
     . rw[cons_hi h2 he hi]
       exact(cons_all16 c _ _ false (by rw[List.length_drop];omega) (by omega) (by rw[List.length_drop];omega) (ha.drop _)).app (.one (rt_len (ha.take _)))
theorem mn_all :∀(c:Nat) (l:List Dg) (a:Nat) (ps:List Nat),l.length<=c->1<=l.length->All16 l->All16 (mn l a ps)
 | 0,l,a,ps,h,h1,ha=>by omega
 | c+1,l,a,ps,h,h1,ha=>by
   by_cases hp:ps=[]
   . subst hp;rw[mn,mny_nil];exact .one (rt_len ha)
   . by_cases h2:2<=l.length
     . have hk:=spl_lt h2
       have hp2:=spl_pos l.length
       rw[mn,mny_two hp h2]
       exact(mn_all c _ _ _ (by rw[List.length_take];omega) (by rw[List.length_take];omega) (ha.take _)).app (mn_all c _ _ _ (by rw[List.length_drop];omega) (by rw[List.length_drop];omega) (ha.drop _))
     . rw[mn,mny_one hp (by omega)];exact All16.nil
section
variable [Nonempty (GlK gl)]
theorem accI (h:60<=n){l:List Dg}{i:Nat}(ha:All16 l)(hl:l.length<=900)(hi:i<l.length) :
  call gl tab n 25 [bAV (dgA l i),i64 i,i64 l.length,ansL (incl nd em l i),bAV (rt nd em l)] []=some (.bool true,[],[]):=by
 obtain⟨f,sh,e,hs⟩:=ansL_eq (incl nd em l i)
 have:=incl_le _ l i (Nat.le_refl _)
 rw[e,checkI_ok (by omega) (by omega) (by omega) hi (ha.at hi) (rt_len ha) (incl_all _ l i (Nat.le_refl _) ha) (by omega) hs]
 obtain⟨h1,h2⟩:=@incl_ok Dg nd em z16 _ l i (Nat.le_refl _) hi
 have e0:dgA l i=l.getD i em:=by rw[dgA,List.getD_eq_getElem?_getD,List.getD_eq_getElem?_getD,List.getElem?_eq_getElem hi];rfl
 rw[e0,decide_eq_true ⟨h1,h2⟩]
theorem accC (h:60<=n){l:List Dg}{m:Nat}(ha:All16 l)(hl:l.length<=900)(h1:1<=m)(hm:m<=l.length) :
  call gl tab n 26 [i64 m,i64 l.length,bAV (rt nd em (l.take m)),bAV (rt nd em l),ansL (cons nd em l m true)] []=some (.bool true,[],[]):=by
 obtain⟨f,sh,e,hs⟩:=ansL_eq (cons nd em l m true)
 have:=cons_le _ l m true (Nat.le_refl _) h1 hm
 rw[e,checkC_ok (by omega) h1 hm (by omega) (rt_len (ha.take _)) (rt_len ha) (cons_all16 _ l m true (Nat.le_refl _) h1 hm ha) (by omega) hs]
 obtain⟨h3,h4⟩:=@cons_ok Dg nd em z16 (rt nd em (l.take m)) _ l m true (Nat.le_refl _) h1 hm (fun _ _=>rfl)
 rw[decide_eq_true ⟨h3,h4⟩]
def fnd (l:List Dg)(ps:List Nat):List Dg:=ps.map fun x=>l.getD x em
theorem fnd_all {l:List Dg}{ps:List Nat}(ha:All16 l):All16 (fnd l ps):=fun x hx=>by
 obtain⟨y,_,rfl⟩:=List.mem_map.1 hx
 simp only[List.getD_eq_getElem?_getD]
 by_cases hy:y<l.length
 . rw[List.getElem?_eq_getElem hy];exact ha _ (List.getElem_mem hy)
 . rw[List.getElem?_eq_none (by omega)];exact em_len
theorem accM (h:60<=n){l:List Dg}{ps:List Nat}{g f2:Bool}{shp sh2:Sh}(ha:All16 l)(h1:1<=l.length)(hl:l.length<=900)(hA:Asc ps 0 l.length)(hpl:ps.length<=1000000)(hsp:Sd ps shp .sc)(hs2:Sd (fnd l ps) sh2 sB) :
  call gl tab n 23 [i64 l.length,.lst g shp (pN ps),.lst f2 sh2 (dgL (fnd l ps)),ansL (mn l 0 ps),bAV (rt nd em l)] []=some (.bool true,[],[]):=by
 obtain⟨f,sh,e,hs⟩:=ansL_eq (mn l 0 ps)
 have:=mn_le _ l 0 ps (Nat.le_refl _) h1
 rw[e,checkM_ok (by omega) h1 (by omega) (rt_len ha) (mn_all _ l 0 ps (Nat.le_refl _) h1 ha) (by omega) hs (fnd_all ha) (by simp[fnd]) hs2 hpl hsp hA]
 obtain⟨h3,h4⟩:=@mny_ok Dg nd em z16 _ l 0 ps [] [] (Nat.le_refl _) h1 hA
 simp only[List.append_nil,Nat.sub_zero]at h4
 rw[decide_eq_true ⟨h3,by rw[wk,fnd,h4]⟩]
end
variable (a b c:Dg)
theorem spl_1 :spl 1=1:=by decide
theorem dep3_0 :dep 0 3=2:=by rw[dep_lo (by omega) (by rw[spl_3];omega),spl_3,dep_lo (by omega) (by rw[spl_2];omega),spl_2,dep_one (by omega)]
theorem lows02 :lows [0,2] (0+2)=[0]:=by decide
theorem highs02 :highs [0,2] (0+2)=[2]:=by decide
theorem lows0 :lows [0] (0+1)=[0]:=by decide
theorem highs0 :highs [0] (0+1)=[]:=by decide
theorem mn3 :mn [a,b,c] 0 [0,2]=[b]:=by
 rw[mn,mny_two (by simp) (by simp)]
 simp only[List.length_cons,List.length_nil,Nat.zero_add,Nat.reduceAdd,spl_3,List.take_succ_cons,List.take_zero,List.drop_succ_cons,List.drop_zero]
 have e1:=lows02
 have e2:=highs02
 simp only[Nat.zero_add]at e1 e2
 rw[e1,e2,mny_two (l:=[a,b]) (by simp) (by simp),mny_one (l:=[c]) (by simp) (by simp)]
 simp only[List.length_cons,List.length_nil,Nat.zero_add,Nat.reduceAdd,spl_2,List.take_succ_cons,List.take_zero,List.drop_succ_cons,List.drop_zero]
 have e3:=lows0
 have e4:=highs0
 simp only[Nat.zero_add]at e3 e4
 rw[e3,e4,mny_nil,mny_one (l:=[a]) (by simp) (by simp),rt_one]
 rfl
theorem asc02 :Asc [0,2] 0 3:=⟨by decide,by decide⟩
theorem tr1_0 :tr1 0=0:=tr1_e rfl
theorem tr1_1 :tr1 1=1:=by rw[tr1_o rfl];exact congrArg (· +1) tr1_0
theorem tr1_2 :tr1 2=0:=tr1_e rfl
theorem pcn_1 :pcn 1=1:=by rw[pcn_two];show 1+pcn 0=1;rw[pcn_0]
theorem pcn_2 :pcn 2=1:=by rw[pcn_two];show 0+pcn 1=1;rw[pcn_1]
theorem grw0 :grw 0 [] a=[a]:=by rw[grw,tr1_0];rfl
theorem grw1 :grw 1 [a] b=[nd a b]:=by rw[grw,tr1_1];rfl
theorem grw2 :grw 2 [a] c=[a,c]:=by rw[grw,tr1_2];rfl
theorem form0 :Form 0 []:=⟨by omega,by omega,by rw[Int.toNat_zero,pcn_0];rfl⟩
theorem form1 :Form ((1:Nat):Int) [a]:=⟨by omega,by omega,by rw[Int.toNat_natCast,pcn_1];rfl⟩
theorem form2 :Form ((2:Nat):Int) [a]:=⟨by omega,by omega,by rw[Int.toNat_natCast,pcn_2];rfl⟩
end Go.Proofs.S03
