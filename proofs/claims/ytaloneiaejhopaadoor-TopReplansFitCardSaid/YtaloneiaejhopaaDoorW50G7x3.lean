/-
  Flows: the heap's least element is taken. No condition.
-/
import Derived.Test.YtaloneiaejhopaaDoorW50G6x3
set_option linter.all false
open Nat renaming exists_eq_add_of_le'->wB
open List renaming take_append_of_le_length->wC,length_replicate->wD
namespace Go.Proofs.S50
open Go Go.Ev Go.Proofs Go.Fl
variable {gl :Gl} {n:Nat}
def L69 :MC:=match m69 with| .seq _ (.seq _ (.seq _ (.seq _ (.seq _ (.seq _ (.block _ (.loop _ b)))))))=>b|_=>.skip
def L69b :MC:=match m69 with| .seq _ (.seq _ (.seq _ (.seq _ (.seq _ (.seq _ (.block _ (.loop _ (.block _ (.seq _ (.seq (.seq _ (.block _ (.loop _ b))) _))))))))))=>b|_=>.skip
def sel (K:List Int)(m l k:Nat):Nat:=if k<m/\nth K k<nth K l then k else l
theorem zrm {K:List Int}{m l k:Nat}(h:l<m):sel K m l k<m:=by unfold sel;split<;>omega
def lea (K:List Int)(m i:Nat):Nat:=sel K m (sel K m i (2*i+1)) (2*i+2)
def h69 (m:Nat)(K V:List Int):Hp:=[(100002,.grow .sc (ns V)),(100001,.grow .sc (ns K)),(100000,.fix sHp (.aggR [.sl 100001 [] 0 m,.sl 100002 [] 0 m]))]
def f69 (m i:Nat)(key v:Int):Fr:=[.set 7 (i64 (i:Int)),.set 6 (i64 (m:Int)),.set 5 (i64 v),.set 4 (i64 key),.set 0 (.ptr 100000 [])]
def S69b (m:Nat)(K V:List Int)(p1 p2 i:Nat)(key v:Int)(l j:Nat):St :=
 ⟨[.set 59 (i64 (j:Int)),.set 58 (i64 2),.set 57 (.sl 57 [] 0 2),.set 8 (i64 (l:Int))]++f69 m i key v,h69 m K V++[(57,.grow .sc [i64 (p1:Int),i64 (p2:Int)])]⟩
abbrev K69b :List Kp:=[.slot 0,.slot 4,.slot 5,.slot 6,.slot 7,.slot 8,.slot 57,.slot 58,.slot 59,.key 57]
theorem z0b {d m:Nat}{K V:List Int}{p1 p2 i:Nat}{key v:Int}{l j:Nat}(h1:m<=K.length)(hl:l<m\/m=0)(hj:j<2)(hi:m<=30000000000) :
  zaz K69b (evC gl (call gl tab d) L69b (S69b m K V p1 p2 i key v l j))=some (S69b m K V p1 p2 i key v (sel K m l (if j=0 then p1 else p2)) (j+1)):=by
 have hcc:j=0\/j=1:=by omega
 have key0:∀p:Nat,(p<m->(ns K)[p]? =some (i64 (nth K p))):=fun p hp=>zb2 (by omega)
 rcases hcc with rfl|rfl
 . rw[if_pos rfl]
   by_cases hk:p1<m
   . have x1:=zb2 (show l<K.length by omega)
     have x2:=key0 p1 hk
     by_cases hc:nth K p1<nth K l
     . rw[sel,if_pos ⟨hk,hc⟩]
       simp(disch:=apply zq;omega) only[go_sem,simprocAttr,↓Nat.reduceEqDiff,xx,L69b,m69,S69b,f69,h69,zab,x1,x2]
     . rw[sel,if_neg (fun h=>hc h.2)]
       simp(disch:=apply zq;omega) only[go_sem,simprocAttr,↓Nat.reduceEqDiff,xx,L69b,m69,S69b,f69,h69,zab,x1,x2]
   . rw[sel,if_neg (fun h=>hk h.1)]
     simp(disch:=apply zq;omega) only[go_sem,simprocAttr,↓Nat.reduceEqDiff,xx,L69b,m69,S69b,f69,h69,zab]
 . rw[if_neg (by omega)]
   by_cases hk:p2<m
   . have x1:=zb2 (show l<K.length by omega)
     have x2:=key0 p2 hk
     by_cases hc:nth K p2<nth K l
     . rw[sel,if_pos ⟨hk,hc⟩]
       simp(disch:=apply zq;omega) only[go_sem,simprocAttr,↓Nat.reduceEqDiff,xx,L69b,m69,S69b,f69,h69,zab,x1,x2]
     . rw[sel,if_neg (fun h=>hc h.2)]
       simp(disch:=apply zq;omega) only[go_sem,simprocAttr,↓Nat.reduceEqDiff,xx,L69b,m69,S69b,f69,h69,zab,x1,x2]
   . rw[sel,if_neg (fun h=>hk h.1)]
     simp(disch:=apply zq;omega) only[go_sem,simprocAttr,↓Nat.reduceEqDiff,xx,L69b,m69,S69b,f69,h69,zab]
def S69 (m:Nat)(key v:Int)(a:PS):St:=⟨f69 m a.i key v,h69 m a.K a.V⟩
abbrev K69 :List Kp:=[.slot 0,.slot 4,.slot 5,.slot 6,.slot 7]
def n69 (m:Nat)(a:PS):PS:=⟨swp a.K a.i (lea a.K m a.i),swp a.V a.i (lea a.K m a.i),lea a.K m a.i⟩
theorem qf6 {d m:Nat}{a:PS}{key v:Int}(h1:m<=a.K.length)(h2:m<=a.V.length)(hi:a.i<m)(hm:m<=30000000000)(hg:lea a.K m a.i≠a.i) :
  zaz K69 (evC gl (call gl tab (d+1)) L69 (S69 m key v a))=some (S69 m key v (n69 m a)):=by
 obtain⟨K,V,i⟩:=a
 simp only at h1 h2 hi hg
 have hs:=fun l j hl hj=>@z0b gl (d+1) m K V (2*i+1) (2*i+2) i key v l j h1 hl hj hm
 have hl1:sel K m i (2*i+1)<m:=zrm hi
 have hl2:lea K m i<m:=zrm hl1
 have c:=@ztv gl (d+1) (by omega) K V m i (lea K m i) hi hl2 (by omega) (by omega)
 have e1:2*(i:Int)+1=((2*i+1:Nat):Int):=by omega
 have e2:2*(i:Int)+2=((2*i+2:Nat):Int):=by omega
 have hs0:=hs i 0 (.inl hi) (by omega)
 have hs1:=hs (sel K m i (2*i+1)) 1 (.inl hl1) (by omega)
 rw[if_pos rfl]at hs0
 rw[if_neg (by omega)]at hs1
 have hsl:sel K m (sel K m i (2*i+1)) (2*i+2)=lea K m i:=rfl
 rw[hsl]at hs1
 simp only[n69]
 have b1:2*i+1<=60000000001:=by omega
 have b2:2*i+2<=60000000002:=by omega
 generalize sel K m i (2*i+1)=l1 at *
 generalize lea K m i=l2 at *
 generalize 2*i+1=p1 at *
 generalize 2*i+2=p2 at *
 have hg2:((l2:Int)==(i:Int))=false:=by rw[beq_eq_false_iff_ne];omega
 simp only[L69b,m69]at hs0 hs1
 simp(disch:=apply zq;omega) only[go_sem,simprocAttr,↓Nat.reduceEqDiff,xx,L69,m69,S69,f69,h69,e1,e2]
 rw[zak (fun j=>S69b m K V p1 p2 i key v (if j=0 then i else if j=1 then l1 else l2) j) 2 (by unfold LF;omega)]
 . simp(disch:=apply zq;omega) only[go_sem,simprocAttr,↓Nat.reduceEqDiff,xx,S69b,f69,h69,hg2,c]
 . simp(disch:=apply zq;omega) only[go_sem,simprocAttr,↓Nat.reduceEqDiff,xx,S69b,f69,h69]
 . intro j hj
   have hcc:j=0\/j=1:=by omega
   rcases hcc with rfl|rfl
   . exact hs0
   . exact hs1
 . simp(disch:=apply zq;omega) only[go_sem,simprocAttr,↓Nat.reduceEqDiff,xx,S69b,f69,h69]
theorem qi7 {d m:Nat}{a:PS}{key v:Int}(h1:m<=a.K.length)(hi:a.i<m\/(a.i=0/\m=0))(hm:m<=30000000000)(hg:lea a.K m a.i=a.i) :
  ∃fr w,evC gl (call gl tab (d+1)) L69 (S69 m key v a)=some (.ret,⟨.set 3 (i64 v)::.set 2 (i64 key)::fr,h69 m a.K a.V++[(57,.grow .sc w)]⟩):=by
 obtain⟨K,V,i⟩:=a
 simp only at h1 hi hg
 have hs:=fun l j hl hj=>@z0b gl (d+1) m K V (2*i+1) (2*i+2) i key v l j h1 hl hj hm
 have hl1:sel K m i (2*i+1)<m\/m=0:=by
  rcases hi with hi|hi
  . exact .inl (zrm hi)
  . exact .inr hi.2
 have e1:2*(i:Int)+1=((2*i+1:Nat):Int):=by omega
 have e2:2*(i:Int)+2=((2*i+2:Nat):Int):=by omega
 have hs0:=hs i 0 (by omega) (by omega)
 have hs1:=hs (sel K m i (2*i+1)) 1 hl1 (by omega)
 rw[if_pos rfl]at hs0
 rw[if_neg (by omega)]at hs1
 have hsl:sel K m (sel K m i (2*i+1)) (2*i+2)=i:=hg
 rw[hsl]at hs1
 have b0:i<=30000000000:=by omega
 have b1:2*i+1<=60000000001:=by omega
 have b2:2*i+2<=60000000002:=by omega
 generalize sel K m i (2*i+1)=l1 at *
 generalize 2*i+1=p1 at *
 generalize 2*i+2=p2 at *
 simp only[L69b,m69]at hs0 hs1
 refine⟨?_,?_,?_⟩
 rotate_left
 rotate_left
 . simp(disch:=apply zq;omega) only[go_sem,simprocAttr,↓Nat.reduceEqDiff,xx,L69,m69,S69,f69,h69,e1,e2]
   rw[zak (fun j=>S69b m K V p1 p2 i key v (if j=0 then i else if j=1 then l1 else i) j) 2 (by unfold LF;omega)]
   . simp(disch:=apply zq;omega) only[go_sem,simprocAttr,↓Nat.reduceEqDiff,xx,S69b,f69,h69]
     rfl
   . simp(disch:=apply zq;omega) only[go_sem,simprocAttr,↓Nat.reduceEqDiff,xx,S69b,f69,h69]
   . intro j hj
     have hcc:j=0\/j=1:=by omega
     rcases hcc with rfl|rfl
     . exact hs0
     . exact hs1
   . simp(disch:=apply zq;omega) only[go_sem,simprocAttr,↓Nat.reduceEqDiff,xx,S69b,f69,h69]
theorem qhg (h:2<=n){K V:List Int}{m L:Nat}(h1:K.length=L)(h2:V.length=L)(hL:m+1<=L)(hm:m<=20000000000):∃K' V':List Int,K'.length=L/\V'.length=L/\(prs K V (m+1)).Perm ((nth K 0,nth V 0)::prs K' V' m) /\
  call gl tab n 69 [.ptr 100000 []] [(100000,.fix sHp (.aggR [.sl 100001 [] 0 (m+1),.sl 100002 [] 0 (m+1)])),(100001,.grow .sc (ns K)),(100002,.grow .sc (ns V))] =
  some (.tup [i64 (nth K 0),i64 (nth V 0)],[(100000,.fix sHp (.aggR [.sl 100001 [] 0 m,.sl 100002 [] 0 m])),(100001,.grow .sc (ns K')),(100002,.grow .sc (ns V'))],[]):=by
 obtain⟨d,rfl⟩:=wB h
 have x1:=zb2 (show 0<K.length by omega)
 have x2:=zb2 (show 0<V.length by omega)
 have c:=@ztv gl (d+1) (by omega) K V (m+1) 0 m (by omega) (by omega) (by omega) (by omega)
 rw[show((0:Nat):Int)=0 from rfl]at c
 have p0:(prs K V (m+1)).Perm ((nth K 0,nth V 0)::prs (swp K 0 m) (swp V 0 m) m):=by
  have h1:=(zuf (K:=K) (V:=V) (m:=m+1) (i:=0) (k:=m) (by omega) (by omega) (by omega) (by omega)).symm
  have h2:prs (swp K 0 m) (swp V 0 m) (m+1)=(nth K 0,nth V 0)::prs (swp K 0 m) (swp V 0 m) m:=by
   rw[prs,zpd (by omega) (by omega),zpd (by omega) (by omega),if_pos rfl,if_pos rfl]
  rw[h2]at h1
  exact h1
 have n1:(swp K 0 m).length=L:=by rw[zer,h1]
 have n2:(swp V 0 m).length=L:=by rw[zer,h2]
 generalize nth K 0=key at *
 generalize nth V 0=v at *
 generalize swp K 0 m=K0 at *
 generalize swp V 0 m=V0 at *
 obtain⟨a,⟨i1,i2,i3,i4⟩,ag,hiter⟩:=zmn (f:=evC gl (call gl tab (d+1)) L69) (ks:=K69) (S69 m key v) (fun a=>a.K.length=L/\a.V.length=L/\(a.i<m\/(a.i=0/\m=0))/\(prs a.K a.V m).Perm (prs K0 V0 m)) (fun a=>m-a.i) (n69 m) (fun a=>decide (lea a.K m a.i≠a.i)) (a0:=⟨K0,V0,0⟩) (by show m-0<LF;unfold LF;omega) ⟨n1,n2,by show 0<m\/(0=0/\m=0);omega,.refl _⟩
  (fun a ⟨i1,i2,i3,i4⟩ hg=>by
    rw[decide_eq_true_eq]at hg
    have hlt:a.i<m:=by
     rcases i3 with h|⟨h1,h2⟩
     . exact h
     . exfalso;apply hg;subst h2;rw[h1];rfl
    have hl1:sel a.K m a.i (2*a.i+1)<m:=zrm hlt
    have hl2:lea a.K m a.i<m:=zrm hl1
    have hgt:a.i<lea a.K m a.i:=by
     have:lea a.K m a.i=a.i\/a.i<lea a.K m a.i:=by unfold lea sel;split<;>(try split)<;>omega
     omega
    refine⟨qf6 (by omega) (by omega) hlt (by omega) hg,⟨by simp only[n69,zer];exact i1,by simp only[n69,zer];exact i2,by simp only[n69];exact .inl hl2,?_⟩,by simp only[n69];omega⟩
    exact(zuf hlt hl2 (by omega) (by omega)).trans i4)
  (fun a ⟨i1,i2,i3,i4⟩ hg=>by
    rw[decide_eq_false_iff_not,Decidable.not_not]at hg
    obtain⟨fr,w,e⟩:=@qi7 gl d m a key v (by omega) i3 (by omega) hg
    rw[e];rfl)
 rw[decide_eq_false_iff_not,Decidable.not_not]at ag
 obtain⟨fr,w,he⟩:=@qi7 gl d m a key v (by omega) i3 (by omega) ag
 rw[he]at hiter
 simp only[L69,m69]at hiter
 refine⟨a.K,a.V,i1,i2,p0.trans (i4.symm.cons _),?_⟩
 rw[zbo (fd:=fd69) rfl]
 simp(disch:=apply zq;omega) only[go_sem,simprocAttr,↓Nat.reduceEqDiff,xx,fd69,m69,zab,h1,h2,x1,x2,c,n1,n2,Int.add_sub_cancel]
 rw[hiter]
 . simp(disch:=apply zq;omega) only[go_sem,simprocAttr,↓Nat.reduceEqDiff,xx,h69]
 . simp(disch:=apply zq;omega) only[go_sem,simprocAttr,↓Nat.reduceEqDiff,xx,S69,h69,f69,Int.add_sub_cancel,Nat.sub_zero]
end Go.Proofs.S50
namespace Go.Proofs.S50
open Go Go.Ev Go.Proofs Go.Fl
variable {gl :Gl} {n:Nat}
theorem qkz (h:1<=n){v:BitVec 64}(hv:v.toNat<=1000):call gl tab n 96 [.int .u64 1,.int .u64 (v.toNat:Int)] []=some (.tup [.int .u64 0,.int .u64 (v.toNat:Int)],[],[]):=by
 obtain⟨d,rfl⟩:=wB h
 have e1:(1#64*v)=v:=BitVec.one_mul _
 have e0:(0#64*v)=0#64:=BitVec.zero_mul
 have e3:v>>>32=0#64:=by
  apply BitVec.eq_of_toNat_eq
  rw[BitVec.toNat_ushiftRight,Nat.shiftRight_eq_div_pow]
  simp;omega
 have e4:(0#64+(0#64+0#64)>>>32+((0#64+0#64&&&4294967295#64)+0#64)>>>32).toNat=0:=by decide
 rw[zai (fd:=fd96) rfl]
 have d1:zbw .shr .u64 1 32=some (.int .u64 0):=rfl
 have d0:zbw .shr .u64 0 32=some (.int .u64 0):=rfl
 have e5:v&&&4294967295#64=v:=by
  apply BitVec.eq_of_toNat_eq
  rw[BitVec.toNat_and,show(4294967295#64).toNat=2^32-1 from rfl,Nat.and_two_pow_sub_one_eq_mod];omega
 simp(disch:=apply zq;omega) only[go_sem,simprocAttr,↓Nat.reduceEqDiff,xx,fd96,m96,e0,e1,e3,d1,d0,e5,e4]
theorem qk0 (h:2<=n){v:BitVec 64}(hv:v.toNat<=1000):call gl tab n 88 [.int .u64 1,.int .u64 (v.toNat:Int)] []=some (.tup [.int .u64 0,.int .u64 (v.toNat:Int)],[],[]):=by
 obtain⟨d,rfl⟩:=wB h
 have c:=@qkz gl (d+1) (by omega) v hv
 rw[zai (fd:=fd88) rfl]
 simp(disch:=apply zq;omega) only[go_sem,simprocAttr,↓Nat.reduceEqDiff,xx,fd88,m88,c]
def L67 :MC:=match m67 with| .seq _ (.seq _ (.seq _ (.seq _ (.seq _ (.seq _ (.seq (.block _ (.loop _ b)) _))))))=>b|_=>.skip
def S67 (N:Nat)(x:Int)(k:Nat):St:=⟨[.set 8 (i64 (k:Int)),.set 7 (.sl 30 [] 0 N)],[(30,.grow .sc (ns (List.replicate k x++List.replicate (N-k) 0)))]⟩
def nx67 (N k:Nat):Nat:=k+min (N-k) k
theorem qf8 {d N k:Nat}{x:Int}(h0:0<k)(hk:k<N)(hN:N<=1000):zaz [.slot 7,.slot 8,.key 30] (evC gl (call gl tab d) L67 (S67 N x k))=some (S67 N x (nx67 N k)):=by
 have hl:(List.replicate k x++List.replicate (N-k) (0:Int)).length=N:=by simp;omega
 have e1:List.take (k-0) (ns (List.replicate k x++List.replicate (N-k) 0))=ns (List.replicate k x):=by simp[ns,wC]
 have e2:List.take k (ns (List.replicate k x++List.replicate (N-k) 0))=ns (List.replicate k x):=by simp[ns,wC]
 have e3:(ns (List.replicate k x)).length=k:=by simp[ns]
 have e4:List.take (min k (N-k)) (ns (List.replicate k x))=ns (List.replicate (min k (N-k)) x):=by simp[ns,List.take_replicate]
 have e5:List.drop (k+min k (N-k)) (ns (List.replicate k x++List.replicate (N-k) 0))=ns (List.replicate (N-nx67 N k) 0):=by
  simp[ns,List.drop_append,nx67];omega
 have e6:ns (List.replicate k x)++ns (List.replicate (min k (N-k)) x)++ns (List.replicate (N-nx67 N k) 0)=ns (List.replicate (nx67 N k) x++List.replicate (N-nx67 N k) 0):=by
  simp[ns,nx67];rw[Nat.min_comm]
 have e7:(k:Int)+((min k (N-k):Nat):Int)=((nx67 N k:Nat):Int):=by unfold nx67;omega
 simp(disch:=apply zq;omega) only[go_sem,simprocAttr,↓Nat.reduceEqDiff,xx,L67,m67,S67,zab,hl]
 rw[e1,e3,e2,e4,e5,e6,e7]
theorem z06 (h:3<=n){N:Nat}{x:Int}(hN:N<=1000)(h0:0<N):call gl tab n 67 [.lst false .sc [i64 x],i64 (N:Int)] []=some (.sl 20000 [] 0 N,[],[.grow .sc (ns (List.replicate N x))]):=by
 obtain⟨d,rfl⟩:=wB h
 have e2:(BitVec.ofNat 64 N).toNat=N:=by simp;omega
 have c:=@qk0 gl (d+2) (by omega) (BitVec.ofNat 64 N) (by rw[e2];exact hN)
 have hl:N<=LIM:=by unfold LIM;omega
 have m1:min 1 N=1:=by omega
 have e3:[i64 x]++List.drop 1 (List.replicate N (i64 0))=ns (List.replicate 1 x++List.replicate (N-1) 0):=by simp[ns]
 obtain⟨k,i1,i2,i3⟩:=zmn (f:=evC gl (call gl tab (d+2)) L67) (ks:=[.slot 7,.slot 8,.key 30]) (S67 N x) (fun k=>0<k/\k<=N) (fun k=>N-k) (nx67 N) (fun k=>decide (k<N)) (a0:=1) (by unfold LF;omega) ⟨by omega,by omega⟩
  (fun k ⟨i1,i2⟩ hg=>by
    rw[decide_eq_true_eq]at hg
    exact⟨qf8 i1 hg hN,by unfold nx67;omega,by unfold nx67;omega⟩)
  (fun k ⟨i1,i2⟩ hg=>by
    rw[decide_eq_false_iff_not]at hg
    obtain rfl:k=N:=by omega
    have hl:(List.replicate k x++List.replicate (k-k) (0:Int)).length=k:=by simp
    simp(disch:=apply zq;omega) only[go_sem,simprocAttr,↓Nat.reduceEqDiff,xx,L67,m67,S67,zab,hl])
 rw[decide_eq_false_iff_not]at i2
 obtain rfl:k=N:=by omega
 have hl2:(List.replicate k x++List.replicate (k-k) (0:Int)).length=k:=by simp
 have e4:List.replicate k x++List.replicate (k-k) (0:Int)=List.replicate k x:=by simp
 simp only[L67,m67]at i3
 rw[zai (fd:=fd67) rfl]
 simp(disch:=apply zq;omega) only[go_sem,simprocAttr,↓Nat.reduceEqDiff,xx,fd67,m67,c]
 simp only[e2]
 simp(disch:=apply zq;omega) only[go_sem,simprocAttr,↓Nat.reduceEqDiff,xx,hl,m1,List.take_succ_cons,List.take_zero,wD]
 rw[i3]
 . simp(disch:=apply zq;omega) only[go_sem,simprocAttr,↓Nat.reduceEqDiff,xx,S67,zab,hl2,e4,wD]
 . simp(disch:=apply zq;omega) only[go_sem,simprocAttr,↓Nat.reduceEqDiff,xx,S67]
   have e5:i64 x::List.drop 1 (List.replicate k (AV.int IntKind.i64 0))=ns (x::List.replicate (k-1) 0):=e3
   rw[e5]
end Go.Proofs.S50
