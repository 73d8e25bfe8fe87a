/-
  Chapter 3: the examples. No condition.
-/
import Derived.Test.YthelhoikbegjlaaDoorW03G24x8
set_option linter.unusedVariables false
set_option linter.unusedSimpArgs false
set_option linter.unusedSectionVars false
namespace Go.Proofs.S03
open Go Go.Ev Go.Proofs Go.Mk
open Go.Proofs.S03.H (GlK GlR)
variable {gl :Gl} {n:Nat}
theorem All16.cons {d:Dg}{l:List Dg}(h:d.length=16)(hl:All16 l):All16 (d::l):=fun x hx=>by
 rcases List.mem_cons.1 hx with e|hx
 . rw[e];exact h
 . exact hl x hx
abbrev dl (l:List AV):AV:=.lst false sB l
def L9 :MC:=match m9 with| .seq _ (.seq _ (.seq _ (.seq _ (.seq _ (.seq _ (.seq _ (.seq _ (.seq _ (.seq _ (.seq _ (.seq _ (.seq _ (.seq (.seq _ (.block _ (.loop _ b))) _)))))))))))))=>b|_=>.skip
def pk9 (a b c ab:Dg):Nat->AV
 | 0=>.agg [i64 0,nilA]
 | 1=>.agg [i64 1,dl [bAV a]]
 | 2=>.agg [i64 2,dl [bAV ab]]
 | _=>.agg [i64 3,dl [bAV ab,bAV c]]
def S9 (a b c ab r:Dg)(i:Nat):St :=
 ⟨[.set 18 (i64 i),.set 17 (.ptr 17 []),.set 16 (i64 0),.set 15 (.sl 60 [] 0 1),.set 14 (i64 0),.set 13 (.sl 54 [] 0 1),.set 12 (i64 0),.set 11 (.sl 49 [] 0 2),.set 10 (i64 0),.set 9 (.sl 44 [] 0 1),.set 8 (i64 0),.set 7 (.sl 39 [] 0 2),.set 6 (.ptr 6 []),.set 5 (.ptr 5 []),.set 4 (.sl 30 [] 0 3),.set 3 (.ptr 3 []),.set 2 (.ptr 2 []),.set 1 (.ptr 1 [])],
   [(60,.grow sB [bAV b]),(54,.grow sB [bAV c]),(49,.grow sB [bAV b,bAV c]),(44,.grow sB [bAV ab]),(39,.grow sB [bAV b,bAV c]),(30,.grow sB [bAV a,bAV b,bAV c]),(17,.fix (.st [.sc,.sc]) (pk9 a b c ab i)),(6,.fix (.ar 16 .sc) (bAV r)),(5,.fix (.ar 16 .sc) (bAV ab)),(3,.fix (.ar 16 .sc) (bAV c)),(2,.fix (.ar 16 .sc) (bAV b)),(1,.fix (.ar 16 .sc) (bAV a))]⟩
abbrev K9 :List Kp:=[.slot 1,.slot 2,.slot 3,.slot 4,.slot 5,.slot 6,.slot 7,.slot 8,.slot 9,.slot 10,.slot 11,.slot 12,.slot 13,.slot 14,.slot 15,.slot 16,.slot 17,.slot 18,.key 1,.key 2,.key 3,.key 5,.key 6,.key 17,.key 30,.key 39,.key 44,.key 49,.key 54,.key 60]
theorem step9 {k:Nat}{a b c ab r:Dg}(h1:a.length=16)(h2:b.length=16)(h3:c.length=16)
  (p0:call gl tab k 28 [.agg [i64 0,nilA],bAV a] []=some (.tup [.agg [i64 1,dl [bAV a]],i64 0],[],[]))
  (p1:call gl tab k 28 [.agg [i64 1,dl [bAV a]],bAV b] []=some (.tup [.agg [i64 2,dl [bAV ab]],i64 0],[],[]))
  (p2:call gl tab k 28 [.agg [i64 2,dl [bAV ab]],bAV c] []=some (.tup [.agg [i64 3,dl [bAV ab,bAV c]],i64 0],[],[])) (i:Nat) (hi:i<3) :
  contK K9 (evC gl (call gl tab k) L9 (S9 a b c ab r i))=some (S9 a b c ab r (i+1)):=by
 have q1:=H.bytes_all a
 have q2:=H.bytes_all b
 have q3:=H.bytes_all c
 match i,hi with
 | 0,_ =>
   rw[S9,S9,pk9,pk9]
   simp(disch:=((fail_if_success (intro _));omega)) only[go_sem,simprocAttr,↓reduceIte,↓Nat.reduceEqDiff,xx,L9,m9,h1,q1,p0,sB_size,↓out16_eq,H.out16_len,H.out16_all,H.out16_pl,H.noImms_bytesAV]
 | 1,_ =>
   rw[S9,S9,pk9,pk9]
   simp(disch:=((fail_if_success (intro _));omega)) only[go_sem,simprocAttr,↓reduceIte,↓Nat.reduceEqDiff,xx,L9,m9,h2,q2,p1,sB_size,↓out16_eq,H.out16_len,H.out16_all,H.out16_pl,H.noImms_bytesAV]
 | 2,_ =>
   rw[S9,S9,pk9,pk9]
   . simp(disch:=((fail_if_success (intro _));omega)) only[go_sem,simprocAttr,↓reduceIte,↓Nat.reduceEqDiff,xx,L9,m9,h3,q3,p2,sB_size,↓out16_eq,H.out16_len,H.out16_all,H.out16_pl,H.noImms_bytesAV]
   all_goals simp
theorem sanity_go {a b c ab r:Dg}(h1:a.length=16)(h2:b.length=16)(h3:c.length=16)(h4:ab.length=16)(h5:r.length=16)
  (a1:call gl tab n 14 [.str [97]] []=some (bAV a,[],[])) (a2:call gl tab n 14 [.str [98]] []=some (bAV b,[],[])) (a3:call gl tab n 14 [.str [99]] []=some (bAV c,[],[]))
  (ra:call gl tab n 18 [.str [97]] []=some (bAV a,[],[])) (n1:call gl tab n 19 [bAV a,bAV b] []=some (bAV ab,[],[])) (rn1:call gl tab n 20 [bAV a,bAV b] []=some (bAV ab,[],[]))
  (n2:call gl tab n 19 [bAV ab,bAV c] []=some (bAV r,[],[]))
  (i0:call gl tab n 10 [dl [bAV a,bAV b,bAV c],i64 0] []=some (.tup [.sl 20000 [] 0 2,i64 0],[],[.grow sB [bAV b,bAV c]]))
  (i2:call gl tab n 10 [dl [bAV a,bAV b,bAV c],i64 2] []=some (.tup [.sl 20000 [] 0 1,i64 0],[],[.grow sB [bAV ab]]))
  (c1:call gl tab n 11 [dl [bAV a,bAV b,bAV c],i64 1] []=some (.tup [.sl 20000 [] 0 2,i64 0],[],[.grow sB [bAV b,bAV c]]))
  (c2:call gl tab n 11 [dl [bAV a,bAV b,bAV c],i64 2] []=some (.tup [.sl 20000 [] 0 1,i64 0],[],[.grow sB [bAV c]]))
  (m1:call gl tab n 21 [dl [bAV a,bAV b,bAV c],.lst false .sc [i64 0,i64 2]] []=some (.tup [.sl 20000 [] 0 1,i64 0],[],[.grow sB [bAV b]]))
  (r1:call gl tab n 15 [dl [bAV a,bAV b,bAV c]] []=some (bAV r,[],[]))
  (k1:call gl tab n 25 [bAV a,i64 0,i64 3,dl [bAV b,bAV c],bAV r] []=some (.bool true,[],[]))
  (k4:call gl tab n 25 [bAV a,i64 0,i64 3,dl [bAV ab],bAV r] []=some (.bool false,[],[]))
  (k2:call gl tab n 26 [i64 1,i64 3,bAV a,bAV r,dl [bAV b,bAV c]] []=some (.bool true,[],[]))
  (k3:call gl tab n 23 [i64 3,.lst false .sc [i64 0,i64 2],dl [bAV a,bAV c],dl [bAV b],bAV r] []=some (.bool true,[],[]))
  (s1:call gl tab n 17 [dl [bAV b,bAV c],dl [bAV b,bAV c]] []=some (.bool true,[],[]))
  (s2:call gl tab n 17 [dl [bAV ab],dl [bAV ab]] []=some (.bool true,[],[]))
  (s3:call gl tab n 17 [dl [bAV c],dl [bAV c]] []=some (.bool true,[],[]))
  (s4:call gl tab n 17 [dl [bAV b],dl [bAV b]] []=some (.bool true,[],[]))
  (s5:call gl tab n 17 [dl [bAV ab,bAV c],dl [bAV ab,bAV c]] []=some (.bool true,[],[]))
  (p0:call gl tab n 28 [.agg [i64 0,nilA],bAV a] []=some (.tup [.agg [i64 1,dl [bAV a]],i64 0],[],[]))
  (p1:call gl tab n 28 [.agg [i64 1,dl [bAV a]],bAV b] []=some (.tup [.agg [i64 2,dl [bAV ab]],i64 0],[],[]))
  (p2:call gl tab n 28 [.agg [i64 2,dl [bAV ab]],bAV c] []=some (.tup [.agg [i64 3,dl [bAV ab,bAV c]],i64 0],[],[])) :
  call gl tab (n+1) 9 [] []=some (.bool true,[],[]):=by
 have q1:=H.bytes_all a
 have q2:=H.bytes_all b
 have q3:=H.bytes_all c
 have q4:=H.bytes_all ab
 have q5:=H.bytes_all r
 have x1:=b16t h1
 have x2:=b16t h2
 have x3:=b16t h3
 have x4:=b16t h4
 have x5:=b16t h5
 have y1:=H.noImms_bytesAV a
 have y2:=H.noImms_bytesAV b
 have y3:=H.noImms_bytesAV c
 have y4:=H.noImms_bytesAV ab
 have y5:=H.noImms_bytesAV r
 have e1:=eqB h1 h1
 have e4:=eqB h4 h4
 have e5:=eqB h5 h5
 rw[decide_eq_true rfl]at e1 e4 e5
 have st:=fun i hi=>@step9 gl n a b c ab r h1 h2 h3 p0 p1 p2 i hi
 simp only[L9,m9]at st
 rw[call_go (fd:=fd9) rfl]
 simp(maxSteps:=1000000) (disch:=((fail_if_success (intro _));omega)) only[go_sem,simprocAttr,↓reduceIte,↓Nat.reduceEqDiff,xx,fd9,m9,↓out16_eq,H.out16_len,H.out16_all,H.out16_pl,a1,a2,a3,n1,n2,i0,i2,c1,c2,m1,h1,h2,h3,h4,h5,q1,q2,q3,q4,q5,x1,x2,x3,x4,x5,y1,y2,y3,y4,y5,sB_size]
 rw[iter_to (S9 a b c ab r) 3 (by unfold LF;omega)]
 . rw[S9,pk9]
   . simp(maxSteps:=1000000) (implicitDefEqProofs:=false) (disch:=((fail_if_success (intro _));omega)) only[go_sem,simprocAttr,↓reduceIte,↓Nat.reduceEqDiff,xx,r1,ra,rn1,k1,k2,k3,k4,s1,s2,s3,s4,s5,e1,e4,e5,h1,h2,h3,h4,h5,q1,q2,q3,q4,q5,x1,x2,x3,x4,x5,y1,y2,y3,y4,y5,sB_size]
   . simp
   . simp
   . simp
 . rw[S9,pk9];simp(disch:=((fail_if_success (intro _));omega)) only[go_sem,simprocAttr,↓reduceIte,↓Nat.reduceEqDiff,xx]
 . exact st
 . rw[S9,pk9]
   . simp(disch:=((fail_if_success (intro _));omega)) only[go_sem,simprocAttr,↓reduceIte,↓Nat.reduceEqDiff,xx]
   . simp
   . simp
   . simp
section
variable [Nonempty (GlK gl)] [Nonempty (GlR gl)] [Nonempty (GlB gl)]
theorem sanity_all {a b c:Dg}(h:1000<=n)(h1:a.length=16)(h2:b.length=16)(h3:c.length=16)
  (a1:call gl tab n 14 [.str [97]] []=some (bAV a,[],[])) (a2:call gl tab n 14 [.str [98]] []=some (bAV b,[],[])) (a3:call gl tab n 14 [.str [99]] []=some (bAV c,[],[]))
  (ra:call gl tab n 18 [.str [97]] []=some (bAV a,[],[])):call gl tab (n+1) 9 [] []=some (.bool true,[],[]):=by
 have h4:=nd_len a b
 have h5:=nd_len (nd a b) c
 have hA:All16 [a,b,c]:=.cons h1 (.cons h2 (.one h3))
 have hA2:All16 [b,c]:=.cons h2 (.one h3)
 have hA3:All16 [nd a b]:=.one h4
 have hA4:All16 [nd a b,c]:=.cons h4 (.one h3)
 have i0:=@inclusion_ok gl n _ h [a,b,c] false sB 0 hA (by simp) (by simp) (.inr rfl)
 have i2:=@inclusion_ok gl n _ h [a,b,c] false sB 2 hA (by simp) (by simp) (.inr rfl)
 have c1:=@consistency_ok gl n _ h [a,b,c] false sB 1 hA (by simp) (by omega) (by simp) (.inr rfl)
 have c2:=@consistency_ok gl n _ h [a,b,c] false sB 2 hA (by simp) (by omega) (by simp) (.inr rfl)
 have m1:=@many_ok gl n _ h [a,b,c] false false sB .sc [0,2] hA (by simp) (by simp) (.inr rfl) (by simp) (.inr rfl) asc02
 have r1:=@root_at gl _ 3 n [a,b,c] false sB (by simp) (by omega) hA (by simp) (.inr rfl)
 have k1:=@accI gl n _ (by omega) [a,b,c] 0 hA (by simp) (by simp)
 have k2:=@accC gl n _ (by omega) [a,b,c] 1 hA (by simp) (by omega) (by simp)
 have k3:=@accM gl n _ (by omega) [a,b,c] [0,2] false false .sc sB hA (by simp) (by simp) asc02 (by simp) (.inr rfl) (.inr rfl)
 have k4:=@checkI_ok gl n _ (by omega) a (nd (nd a b) c) 0 3 false sB [nd a b] (by omega) (by omega) (by omega) h1 h5 hA3 (by simp) (.inr rfl)
 rw[decide_eq_false (by rw[dep3_0];simp)]at k4
 rw[incl3_0]at i0 k1
 rw[incl3_2]at i2
 rw[cons3_1]at c1 k2
 rw[cons3_2]at c2
 rw[mn3]at m1 k3
 rw[rt3]at r1 k1 k2 k3
 have e1:rt nd em ([a,b,c].take 1)=a:=rt_one _
 rw[e1]at k2
 exact sanity_go h1 h2 h3 h4 h5 a1 a2 a3 ra (node_at (by omega) h1 h2) (rnode_at (by omega) h1 h2) (node_at (by omega) h4 h3) i0 i2 c1 c2 m1 r1 k1 k4 k2 k3
  (@same_at gl n (by omega) false false sB sB [b,c] hA2 (.inr rfl) (.inr rfl) (by simp))
  (@same_at gl n (by omega) false false sB sB [nd a b] hA3 (.inr rfl) (.inr rfl) (by simp))
  (@same_at gl n (by omega) false false sB sB [c] (.one h3) (.inr rfl) (.inr rfl) (by simp))
  (@same_at gl n (by omega) false false sB sB [b] (.one h2) (.inr rfl) (.inr rfl) (by simp))
  (@same_at gl n (by omega) false false sB sB [nd a b,c] hA4 (.inr rfl) (.inr rfl) (by simp))
  (by have p0:=@append_ok gl n _ _ (by omega) 0 true .sc [] a h1 (by simp) All16.nil (.inl rfl) (by omega) form0
      rw[grw0]at p0;exact p0)
  (by have p1:=@append_ok gl n _ _ (by omega) 1 false sB [a] b h2 (by simp) (.one h1) (.inr rfl) (by omega) (form1 a)
      rw[grw1]at p1;exact p1)
  (by have p2:=@append_ok gl n _ _ (by omega) 2 false sB [nd a b] c h3 (by simp) hA3 (.inr rfl) (by omega) (form2 _)
      rw[grw2]at p2;exact p2)
theorem sanity_at (h:1001<=n):call gl tab n 9 [] []=some (.bool true,[],[]):=by
 obtain⟨d,rfl⟩:=Nat.exists_eq_add_of_le' h
 have hn:1000<=d+1000:=by omega
 revert hn
 show 1000<=d+1000->call gl tab (d+1000+1) 9 [] []=some (.bool true,[],[])
 generalize d+1000=n
 intro h
 have h1:=lf_len [97]
 have h2:=lf_len [98]
 have h3:=lf_len [99]
 have a1:=@leaf_at gl n _ (by omega) [97] (by decide)
 have a2:=@leaf_at gl n _ (by omega) [98] (by decide)
 have a3:=@leaf_at gl n _ (by omega) [99] (by decide)
 have ra:=@rleaf_at gl n _ (by omega) [97] (by decide)
 exact sanity_all h h1 h2 h3 a1 a2 a3 ra
end
end Go.Proofs.S03
namespace Go.Proofs.S03
open Go Go.Ev Go.Proofs Go.Mk
open Go.Proofs.S03.H (GlK GlR)
variable {gl :Gl} {n:Nat}
abbrev kI :Kd:=.int .i64
abbrev kB :Kd:=.ar 16 (.int .u8)
abbrev kPk :Kd:=.st [kI,.sl kB]
theorem kB_sh :kB.sh=sB:=rfl
theorem kI_sh :kI.sh= .sc:=rfl
abbrev ML :Nat:=9223372036854775807
def R64 (x:Int):Prop:=-9223372036854775808<=x/\x<=9223372036854775807
theorem ml_le {n:Nat}(h:n<=Go.maxLen):n<=ML:=by simpa[Go.maxLen]using h
theorem kd_i {a:AV}(h:HasKd kI a):∃n,a=i64 n/\R64 n:=by
 obtain⟨n,rfl,h1,h2⟩:=h
 exact⟨n,rfl,h1,h2⟩
theorem kd_str {a:AV}(h:HasKd .str a):∃l,a= .str l/\l.length<=ML:=by
 obtain⟨l,rfl,h1⟩:=h
 exact⟨l,rfl,ml_le h1⟩
theorem byte_of {a:AV}(h:HasKd (.int .u8) a):∃b:UInt8,a= .int .u8 b.toNat:=by
 obtain⟨n,rfl,h1,h2⟩:=h
 have h3:0<=n:=h1
 have h4:n<=255:=h2
 refine⟨UInt8.ofNat n.toNat,?_⟩
 congr 1
 rw[UInt8.toNat_ofNat']
 omega
theorem bytes_of :∀{l:List AV},(∀x∈l,HasKd (.int .u8) x)->∃b:List UInt8,l=bytesAV b
 | [],_=>⟨[],rfl⟩
 | x::l,h=>by
   obtain⟨a,rfl⟩:=byte_of (h x (by simp))
   obtain⟨r,rfl⟩:=bytes_of (l:=l) fun y hy=>h y (by simp[hy])
   exact⟨a::r,rfl⟩
theorem kd_B {a:AV}(h:HasKd kB a):∃b,a=bAV b/\b.length=16:=by
 obtain⟨l,rfl,h1,h2⟩:=h
 obtain⟨b,rfl⟩:=bytes_of h2
 rw[bytesAV_length]at h1
 exact⟨b,rfl,h1⟩
theorem kd_dg0 :∀{l:List AV},(∀x∈l,HasKd kB x)->∃r:List Dg,l=dgL r/\All16 r
 | [],_=>⟨[],rfl,All16.nil⟩
 | x::l,h=>by
   obtain⟨a,rfl,ha⟩:=kd_B (h x (by simp))
   obtain⟨r,rfl,hr⟩:=kd_dg0 (l:=l) fun y hy=>h y (by simp[hy])
   exact⟨a::r,rfl,.cons ha hr⟩
theorem kd_dgs {a:AV}(h:HasKd (.sl kB) a):∃l,a= .lst false sB (dgL l)/\All16 l/\l.length<=ML:=by
 obtain⟨l,rfl,h0,h⟩:=h
 obtain⟨r,rfl,hr⟩:=kd_dg0 h
 rw[dgL_length]at h0
 exact⟨r,rfl,hr,ml_le h0⟩
theorem kd_is0 :∀{l:List AV},(∀x∈l,HasKd kI x)->∃r:List Int,l=pI r
 | [],_=>⟨[],rfl⟩
 | x::l,h=>by
   obtain⟨a,rfl,ha⟩:=kd_i (h x (by simp))
   obtain⟨r,rfl⟩:=kd_is0 (l:=l) fun y hy=>h y (by simp[hy])
   exact⟨a::r,rfl⟩
theorem kd_is {a:AV}(h:HasKd (.sl kI) a):∃l,a= .lst false .sc (pI l)/\l.length<=ML:=by
 obtain⟨l,rfl,h0,h⟩:=h
 obtain⟨r,rfl⟩:=kd_is0 h
 rw[pI_length]at h0
 exact⟨r,rfl,ml_le h0⟩
theorem kd_pk {a:AV}(h:HasKd kPk a):∃z t,a=pkAV z false sB t/\R64 z/\All16 t/\t.length<=ML:=by
 obtain⟨_,rfl,_,_,rfl,h1,_,_,rfl,h2,rfl⟩:=h
 obtain⟨z,rfl,hz⟩:=kd_i h1
 obtain⟨t,rfl,ht,hl⟩:=kd_dgs h2
 exact⟨z,t,rfl,hz,ht,hl⟩
structure Pair (x y:Option (AV×Hp×List OB))(p:List Dg)(f:Bool)(sh:Sh)(e:Int):Prop where
 a:All16 p
 s:Sd p sh sB
 l:p.length<=1000000
 x:x=some (.tup [.sl 20000 [] 0 p.length,i64 e],[],[.grow sB (dgL p)])
 y:y=some (.agg [.lst f sh (dgL p),i64 e],[],[])
section
variable [Nonempty (GlK gl)] [Nonempty (GlR gl)]
theorem incl_pair (h:1000<=n){l:List Dg}(ha:All16 l)(hl:l.length<=900)(i:Int) :
  ∃p f sh e,Pair (call gl tab n 10 [.lst false sB (dgL l),i64 i] []) (call gl tab n 12 [.lst false sB (dgL l),i64 i] []) p f sh e:=by
 by_cases hi:0<=i/\i<l.length
 . obtain⟨j,rfl⟩:∃j:Nat,i=j:=⟨i.toNat,by omega⟩
   have hj:j<l.length:=by omega
   obtain⟨f,sh,e,hs⟩:=ansL_eq (incl nd em l j)
   have:=incl_le _ l j (Nat.le_refl _)
   have r:=@rinclusion_ok gl n _ h l false sB j ha hl hj (.inr rfl)
   rw[e]at r
   exact⟨_,f,sh,0,incl_all _ l j (Nat.le_refl _) ha,hs,by omega,inclusion_ok h ha hl hj (.inr rfl),r⟩
 . exact⟨[],true,.sc,1,All16.nil,.inl rfl,by simp,inclusion_bad (by omega) (by omega) hi,rinclusion_bad (by omega) (by omega) hi⟩
theorem cons_pair (h:1000<=n){l:List Dg}(ha:All16 l)(hl:l.length<=900)(m:Int) :
  ∃p f sh e,Pair (call gl tab n 11 [.lst false sB (dgL l),i64 m] []) (call gl tab n 13 [.lst false sB (dgL l),i64 m] []) p f sh e:=by
 by_cases hm:0<=m/\m<=l.length
 . obtain⟨j,rfl⟩:∃j:Nat,m=j:=⟨m.toNat,by omega⟩
   by_cases he:j=0\/j=l.length
   . exact⟨[],true,.sc,0,All16.nil,.inl rfl,by simp,consistency_end (by omega) (by omega) he,rconsistency_end (by omega) (by omega) he⟩
   . obtain⟨f,sh,e,hs⟩:=ansL_eq (cons nd em l j true)
     have:=cons_le _ l j true (Nat.le_refl _) (by omega) (by omega)
     have r:=@rconsistency_ok gl n _ h l false sB j ha hl (by omega) (by omega) (.inr rfl)
     rw[e]at r
     exact⟨_,f,sh,0,cons_all16 _ l j true (Nat.le_refl _) (by omega) (by omega) ha,hs,by omega,consistency_ok h ha hl (by omega) (by omega) (.inr rfl),r⟩
 . exact⟨[],true,.sc,1,All16.nil,.inl rfl,by simp,consistency_bad (by omega) (by omega) hm,rconsistency_bad (by omega) (by omega) hm⟩
instance (l :List Int) (N:Int):Decidable (AscB l N):=by unfold AscB;infer_instance
theorem many_pair (h:1000<=n){l:List Dg}(ha:All16 l)(hl:l.length<=900)(pl:List Int)(hp:pl.length<=1000000) :
  ∃p f sh e,Pair (call gl tab n 21 [.lst false sB (dgL l),.lst false .sc (pI pl)] []) (call gl tab n 22 [.lst false sB (dgL l),.lst false .sc (pI pl)] []) p f sh e:=by
 by_cases hb:AscB pl l.length
 . by_cases h1:1<=l.length
   . obtain⟨ps,rfl,hA⟩:=asc_toI hb
     rw[toI_length]at hp
     have:=mn_le _ l 0 ps (Nat.le_refl _) h1
     obtain⟨f,sh,r,hs⟩:=@rmanyT_ok gl n _ h l false false sB .sc ps ha h1 hl (.inr rfl) hp (.inr rfl) hA
     exact⟨_,f,sh,0,mn_all _ l 0 ps (Nat.le_refl _) h1 ha,hs,by omega,many_ok h ha h1 hl (.inr rfl) hp (.inr rfl) hA,r⟩
   . obtain rfl:l=[]:=List.length_eq_zero_iff.1 (by omega)
     exact⟨[],true,.sc,0,All16.nil,.inl rfl,by simp,many_zero (by omega) hp (.inr rfl) hb,rmanyT_zero (by omega) hp (.inr rfl) hb⟩
 . exact⟨[],true,.sc,1,All16.nil,.inl rfl,by simp,many_bad (by omega) (by omega) hp (.inr rfl) hb,rmanyT_bad (by omega) (by omega) hp (.inr rfl) hb⟩
theorem checkM_pair (h:60<=n){root:Dg}(N:Int)(hr:root.length=16){pl:List Int}(hp:pl.length<=1000000){fs p:List Dg}(ha:All16 p)(hl:p.length<=1000000)(ha2:All16 fs)(hl2:fs.length<=1000000) :
  ∃b:Bool,call gl tab n 23 [i64 N,.lst false .sc (pI pl),.lst false sB (dgL fs),.lst false sB (dgL p),bAV root] []=some (.bool b,[],[]) /\
   call gl tab n 24 [i64 N,.lst false .sc (pI pl),.lst false sB (dgL fs),.lst false sB (dgL p),bAV root] []=some (.bool b,[],[]):=by
 by_cases hb:N<0\/N>1099511627776\/¬AscB pl N\/fs.length≠pl.length
 . exact⟨false,checkM_bad (by omega) hb hr hp hl2 (.inr rfl),rcheckM_bad (by omega) hb hr hp hl2 (.inr rfl)⟩
 . obtain⟨j,rfl⟩:∃j:Nat,N=j:=⟨N.toNat,by omega⟩
   have hA:AscB pl j:=Classical.byContradiction fun hn=>hb (.inr (.inr (.inl hn)))
   have hf:fs.length=pl.length:=Classical.byContradiction fun hn=>hb (.inr (.inr (.inr hn)))
   obtain⟨ps,rfl,hQ⟩:=asc_toI hA
   rw[toI_length]at hp hf
   by_cases h0:j=0
   . subst h0
     exact⟨_,checkM_zero h hr hl hf hp (.inr rfl) hQ,rcheckM_zero h hr hl hf hp (.inr rfl) hQ⟩
   . exact⟨_,checkM_ok h (by omega) (by omega) hr ha hl (.inr rfl) ha2 hf (.inr rfl) hp (.inr rfl) hQ,rcheckM_ok h (by omega) (by omega) hr ha hl (.inr rfl) ha2 hf (.inr rfl) hp (.inr rfl) hQ⟩
end
end Go.Proofs.S03
