/-
  Chapter 17: the examples. No condition.
-/
import Derived.Test.YthipjfnealbheaaDoorW17G25x4
set_option linter.all false
open Nat renaming exists_eq_add_of_le'->wB,le_refl->wC
namespace Go.Proofs.S17
open Go Go.Ev Go.Proofs Go.Proofs.S17.Q
variable {gl :Gl} {n:Nat}
theorem qd3 {l:List Ob}{x:List UInt8}(h:∀j,j<l.length->Bl.lt (oat l j).nm x=true):Pn l x l.length:=⟨wC _,h,fun j h1 h2=>by omega⟩
theorem zzp {S:Sf}{x:List UInt8}(h:∀j,j<S.H.length->Bl.lt (oat S.H j).nm x=true):¬hasN S x:=fun⟨j,hj,e⟩=>Bl.ne (h j hj) e
theorem rok {o:Ob}(h1:1<=o.nm.length/\o.nm.length<=4096)(h2:1<=o.sz/\o.sz<=1099511627776)(h3:0<=o.la/\o.la<=1099511627776):ROk o:=⟨h1,h2,h3⟩
section
variable [Nonempty (H.GlK gl)]
theorem ex_a (hn:16<=n):call gl tab n 14 [sfV E0 (qq true false .sc),oV Oa] []=some (.tup [sfV E1 (qq false false sO),.lst false .sc [],i64 0],[],[])/\VSf E1:=by
 have hr:ROk Oa:=rok (by decide) (by decide) (by decide)
 have hnn:¬hasN E0 Oa.nm:=zzp fun j hj=>by have:j<([]:List Ob).length:=hj;simp at this
 have ha:hasT E0 Oa.tn:=⟨0,by decide,rfl⟩
 obtain⟨k,hp,c⟩:=@zru gl n _ hn E0 Oa true false .sc z8c tn_2 (fun j hj=>by have:j<([]:List Ob).length:=hj;simp at this) (.inl rfl) hr (by decide) ha hnn (by decide) (by decide)
 have hk:k=0:=by have:k<=0:=hp.le;omega
 subst hk
 have e:adm E0 Oa 0 (idxT E0.A Oa.tn)=E1:=rfl
 have v:=(ztn z8c tn_2 hr ha hnn (by decide) (by decide) hp).1
 rw[e]at c v
 exact⟨c,v⟩
theorem qd9 {o:Ob}{x:List UInt8}(h:Bl.lt o.nm x=true):∀j,j<[o].length->Bl.lt (oat [o] j).nm x=true:=fun j hj=>by
 match j,hj with
 | 0,_=>exact h
theorem zyd {o p:Ob}{x:List UInt8}(h:Bl.lt o.nm x=true)(h':Bl.lt p.nm x=true):∀j,j<[o,p].length->Bl.lt (oat [o,p] j).nm x=true:=fun j hj=>by
 match j,hj with
 | 0,_=>exact h
 | 1,_=>exact h'
theorem ex_b (hn:16<=n):call gl tab n 14 [sfV E1 (qq false false sO),oV Ob'] []=some (.tup [sfV E2 (qq false false sO),.lst false .sc [],i64 0],[],[])/\VSf E2:=by
 have hv1:=(@ex_a gl 16 _ (wC _)).2
 have hr:ROk Ob':=rok (by decide) (by decide) (by decide)
 have hlt:=qd9 (o:=Oa) (x:=Ob'.nm) (by decide)
 have hnn:¬hasN E1 Ob'.nm:=zzp hlt
 have ha:hasT E1 Ob'.tn:=⟨0,by decide,rfl⟩
 obtain⟨k,hp,c⟩:=@zru gl n _ hn E1 Ob' false false sO hv1 tn_2 (fun j hj=>by
  match j,hj with
  | 0,_=>decide) (.inr rfl) hr (by decide) ha hnn (by decide) (by decide)
 have hk:k=1:=z9w hp (qd3 hlt)
 subst hk
 have e:adm E1 Ob' 1 (idxT E1.A Ob'.tn)=E2:=rfl
 have v:=(ztn hv1 tn_2 hr ha hnn (by decide) (by decide) hp).1
 rw[e]at c v
 exact⟨c,v⟩
theorem ex_c (hn:16<=n):call gl tab n 14 [sfV E2 (qq false false sO),oV Oc] []=some (.tup [sfV E3 (qq false false sO),.lst false .sc [.str [98],.str [97]],i64 0],[],[]):=by
 have hv2:=(@ex_b gl 16 _ (wC _)).2
 have hr:ROk Oc:=rok (by decide) (by decide) (by decide)
 have hlt:=zyd (o:=Oa) (p:=Ob') (x:=Oc.nm) (by decide) (by decide)
 have hnn:¬hasN E2 Oc.nm:=zzp hlt
 have ha:hasT E2 Oc.tn:=⟨1,by decide,rfl⟩
 obtain⟨v,hiv,hg,hF,hb0,hvc,hcl⟩:=@zx8 gl (n-1) _ (by omega) E2 Oc false false sO (iv_0 hv2 tn_2 (fun j hj=>by
  match j,hj with
  | 0,_=>decide
  | 1,_=>decide) ha) (.inr rfl) hr (by decide) hnn (by decide) (by decide)
 obtain⟨r1,r2,r3,r4⟩:=qhh
 rw[show(2:Nat)=E2.H.length from rfl,<-hF]at r1 r2 r3 r4
 have he:vEnd Oc v=0:=by
  rw[vEnd,if_neg,if_pos r3]
  rw[r1];decide
 obtain⟨k,hp,c⟩:=zpr hn hv2 (.inr rfl) hr hiv hb0 hcl he
 rw[r1]at hp
 have hk:k=0:=by have:k<=0:=hp.le;omega
 subst hk
 rw[r1,r2]at c
 exact c
theorem ex_d (hn:16<=n):call gl tab n 14 [sfV E2 (qq false false sO),oV Od] []=some (.tup [sfV E2 (qq false false sO),.lst true .sc [],i64 2],[],[]):=by
 have hv2:=(@ex_b gl 16 _ (wC _)).2
 have hr:ROk Od:=rok (by decide) (by decide) (by decide)
 have hlt:=zyd (o:=Oa) (p:=Ob') (x:=Od.nm) (by decide) (by decide)
 exact zvk hn hv2 (.inr rfl) (.inr (.inr (.inr ⟨hr,⟨0,by decide,rfl⟩,zzp hlt,.inl (by decide),rfl⟩)))
theorem ex_z (hn:16<=n):call gl tab n 18 [sfV E2 (qq false false sO),.str [122]] []=some (.tup [sfV E2 (qq false false sO),i64 5],[],[]):=by
 have hv2:=(@ex_b gl 16 _ (wC _)).2
 have hlt:=zyd (o:=Oa) (p:=Ob') (x:=[122]) (by decide) (by decide)
 exact zy9 hn hv2 (.inr rfl) (zzp hlt)
abbrev Wv (u v:Int)(fh:Bool)(mh:Sh)(H lz:List AV):AV:=.agg [i64 10,.lst false sA [.agg [i64 1,i64 1,i64 u],.agg [i64 2,i64 1,i64 v]],.lst fh mh H,.agg [i64 16,i64 100,i64 0,.lst false .sc lz]]
theorem zyz (hn:17<=n):call gl tab n 7 [] []=some (.bool true,[],[]):=by
 obtain⟨d,rfl⟩:=wB hn
 obtain⟨bp,hbp,cp⟩:=@K.rpower_at gl (d+15) (by omega) 16
 rw[hbp.2 ⟨4,by omega,by decide⟩]at cp
 have c1:call gl tab (d+16) 19 [i64 16,i64 100] []=some (.agg [.agg [i64 16,i64 100,i64 0,.lst false .sc (K.ns L0)],i64 0],[],[]):=@K.rnew_ok gl (d+16) (by omega) 16 100 (by omega) (by omega) cp
 have c2:∀f f',call gl tab (d+16) 8 [i64 10,.lst f sA [.agg [i64 1,i64 1,i64 0],.agg [i64 2,i64 1,i64 0]],.agg [i64 16,i64 100,i64 0,.lst f' .sc (K.ns L0)]] []=some (.tup [Wv 0 0 true .sc [] (K.ns L0),i64 0],[],[]):=fun f f'=>@qek gl (d+16) (by omega) f f' 10 A0 16 100 0 L0 (by decide) (by omega) qht
 obtain⟨bv,hbv,c3'⟩:=@valid_at gl (d+16) (by omega) E0 (qq true false .sc) ⟨.inr rfl,.inl rfl⟩ (by decide) (by decide) (by decide) (by decide)
 rw[hbv.2 z8c]at c3'
 have c3:call gl tab (d+16) 11 [Wv 0 0 true .sc [] (K.ns L0)] []=some (.bool true,[],[]):=c3'
 have c4:call gl tab (d+16) 14 [Wv 0 0 true .sc [] (K.ns L0),oV Oa] []=some (.tup [Wv 8 0 false sO [oV Oa] (K.ns L0),.lst false .sc [],i64 0],[],[]):=(@ex_a gl (d+16) _ (by omega)).1
 have c5:call gl tab (d+16) 14 [Wv 8 0 false sO [oV Oa] (K.ns L0),oV Ob'] []=some (.tup [Wv 10 0 false sO [oV Oa,oV Ob'] (K.ns L0),.lst false .sc [],i64 0],[],[]):=(@ex_b gl (d+16) _ (by omega)).1
 have c6:call gl tab (d+16) 14 [Wv 10 0 false sO [oV Oa,oV Ob'] (K.ns L0),oV Oc] []=some (.tup [Wv 0 4 false sO [oV Oc] (K.ns L0),.lst false .sc [.str [98],.str [97]],i64 0],[],[]):=@ex_c gl (d+16) _ (by omega)
 have c7:call gl tab (d+16) 14 [Wv 10 0 false sO [oV Oa,oV Ob'] (K.ns L0),oV Od] []=some (.tup [Wv 10 0 false sO [oV Oa,oV Ob'] (K.ns L0),.lst true .sc [],i64 2],[],[]):=@ex_d gl (d+16) _ (by omega)
 have c8:call gl tab (d+16) 18 [Wv 10 0 false sO [oV Oa,oV Ob'] (K.ns L0),.str [122]] []=some (.tup [Wv 10 0 false sO [oV Oa,oV Ob'] (K.ns L0),i64 5],[],[]):=@ex_z gl (d+16) _ (by omega)
 clear cp hbp c3' hbv
 generalize K.ns L0=lz at *
 rw[zah (fd:=fd7) rfl]
 simp(disch:=apply zq;omega) only[go_sem,simprocAttr,↓Nat.reduceEqDiff,xx,fd7,m7,c1,c2,c3,c4,c5,c6,c7,c8]
end
end Go.Proofs.S17
namespace Go.Proofs.S17
open Go Go.Ev Go.Proofs Go.Proofs.S17.Q
variable {gl :Gl} {n:Nat}
abbrev kI :Kd:=.int .i64
abbrev kAc :Kd:=.st [.int .i64,.int .i64,.int .i64]
abbrev kO :Kd:=.st [.str,.int .i64,.int .i64,.int .i64]
abbrev kK :Kd:=.st [.int .i64,.int .i64,.int .i64,.sl (.int .i64)]
abbrev kF :Kd:=.st [.int .i64,.sl kAc,.sl kO,kK]
theorem kdA :∀{l:List AV},(∀x∈l,HasKd kAc x)->∃r:List A3,l=ac r/\Tn r
 | [],_=>⟨[],rfl,fun i hi=>by simp at hi⟩
 | x::l,h=>by
   obtain⟨k,rfl,hx⟩:=h x (by simp)
   simp only[HasKds]at hx
   obtain⟨_,_,rfl,⟨a,rfl,ha⟩,_,_,rfl,⟨b,rfl,_⟩,_,_,rfl,⟨c,rfl,_⟩,rfl⟩:=hx
   obtain⟨r,rfl,hr⟩:=kdA (l:=l) fun y hy=>h y (by simp[hy])
   refine⟨⟨a,b,c⟩::r,rfl,fun i hi=> ?_⟩
   cases i with
   | zero=>exact ha.2
   | succ i=>exact hr i (by simpa using hi)
theorem kdO :∀{l:List AV},(∀x∈l,HasKd kO x)->∃r:List Ob,l=hs r
 | [],_=>⟨[],rfl⟩
 | x::l,h=>by
   obtain⟨k,rfl,hx⟩:=h x (by simp)
   simp only[HasKds]at hx
   obtain⟨_,_,rfl,⟨a,rfl,_⟩,_,_,rfl,⟨b,rfl,_⟩,_,_,rfl,⟨c,rfl,_⟩,_,_,rfl,⟨e,rfl,_⟩,rfl⟩:=hx
   obtain⟨r,rfl⟩:=kdO (l:=l) fun y hy=>h y (by simp[hy])
   exact⟨⟨a,b,c,e⟩::r,rfl⟩
theorem kdN :∀{l:List AV},(∀x∈l,HasKd kI x)->∃r:List Int,l=K.ns r
 | [],_=>⟨[],rfl⟩
 | x::l,h=>by
   obtain⟨a,rfl,_⟩:=h x (by simp)
   obtain⟨r,rfl⟩:=kdN (l:=l) fun y hy=>h y (by simp[hy])
   exact⟨a::r,rfl⟩
structure ArS (S:Sf):Prop where
 t:Tn S.A
 w:S.w<=9223372036854775807
 a:S.A.length<=9223372036854775807
 h:S.H.length<=9223372036854775807
 l:S.L.length<=9223372036854775807
theorem kdK {x:AV}(h:HasKd kK x):∃w s a:Int,∃L:List Int,x= .agg [i64 w,i64 s,i64 a,.lst false .sc (K.ns L)]/\w<=9223372036854775807/\L.length<=9223372036854775807:=by
 obtain⟨k,rfl,hx⟩:=h
 simp only[HasKds]at hx
 obtain⟨_,_,rfl,⟨w,rfl,hw⟩,_,_,rfl,⟨s,rfl,_⟩,_,_,rfl,⟨a,rfl,_⟩,_,_,rfl,⟨d,rfl,hd,hl⟩,rfl⟩:=hx
 obtain⟨L,rfl⟩:=kdN hl
 refine⟨w,s,a,L,rfl,hw.2,?_⟩
 have:=hd
 simp[Go.maxLen,K.ns_length]at this
 omega
theorem kdF {x:AV}(h:HasKd kF x):∃S:Sf,x=sfV S (qq false false sO)/\ArS S:=by
 obtain⟨k,rfl,hx⟩:=h
 simp only[HasKds]at hx
 obtain⟨_,_,rfl,⟨c,rfl,_⟩,_,_,rfl,⟨d1,rfl,hd1,h1⟩,_,_,rfl,⟨d2,rfl,hd2,h2⟩,_,_,rfl,h3,rfl⟩:=hx
 obtain⟨A,rfl,hA⟩:=kdA h1
 obtain⟨H,rfl⟩:=kdO h2
 obtain⟨w,s,a,L,rfl,hw,hL⟩:=kdK h3
 refine⟨⟨c,A,H,w,s,a,L⟩,rfl,hA,hw,?_,?_,hL⟩
 . have:=hd1;simp[Go.maxLen,zac]at this;show A.length<=_;omega
 . have:=hd2;simp[Go.maxLen,zaa]at this;show H.length<=_;omega
theorem qbj (h:1<=n)(S:Sf)(q:Fl)(hS:ArS S) :
  ∃b:Bool,(b=true↔S.A.length<=8/\S.H.length<=30/\S.L.length<=300)/\call gl tab n 6 [sfV S q] []=some (.bool b,[],[]):=by
 obtain⟨d,rfl⟩:=wB h
 have ha:=hS.a
 have hh:=hS.h
 have hL:=hS.l
 rw[zah (fd:=fd6) rfl]
 by_cases h1:S.A.length<=8
 case neg=>exact⟨false,⟨(fun h=>by cases h),fun h=>absurd h.1 h1⟩,by simp(disch:=apply zq;omega) only[go_sem,simprocAttr,↓Nat.reduceEqDiff,xx,fd6,m6,zac,zaa,K.ns_length]⟩
 by_cases h2:S.H.length<=30
 case neg=>exact⟨false,⟨(fun h=>by cases h),fun h=>absurd h.2.1 h2⟩,by simp(disch:=apply zq;omega) only[go_sem,simprocAttr,↓Nat.reduceEqDiff,xx,fd6,m6,zac,zaa,K.ns_length]⟩
 by_cases h3:S.L.length<=300
 case neg=>exact⟨false,⟨(fun h=>by cases h),fun h=>absurd h.2.2 h3⟩,by simp(disch:=apply zq;omega) only[go_sem,simprocAttr,↓Nat.reduceEqDiff,xx,fd6,m6,zac,zaa,K.ns_length]⟩
 exact⟨true,⟨fun _=>⟨h1,h2,h3⟩,fun _=>rfl⟩,by simp(disch:=apply zq;omega) only[go_sem,simprocAttr,↓Nat.reduceEqDiff,xx,fd6,m6,zac,zaa,K.ns_length]⟩
end Go.Proofs.S17
namespace Go.Proofs.S17
open Go Go.Ev Go.Proofs Go.Proofs.S17.Q
theorem qf0 {S:Sf}(hv:VSf S){j k:Nat}(hj:j<S.H.length):¬hasN (drp S j k) (oat S.H j).nm:=by
 rintro ⟨i,hi,e⟩
 have hl:(S.H.eraseIdx j).length=S.H.length-1:=by rw[List.length_eraseIdx,if_pos hj]
 have hi2:i<(S.H.eraseIdx j).length:=hi
 have e2:(oat (S.H.eraseIdx j) i).nm=(oat S.H j).nm:=e
 rw[zff hj]at e2
 have hs:=zee hv.ho
 by_cases h:i<j
 . rw[if_pos h]at e2
   have:=hs i j h hj;rw[e2,Bl.irrefl]at this;cases this
 . rw[if_neg h]at e2
   have:=hs j (i+1) (by omega) (by omega);rw[e2,Bl.irrefl]at this;cases this
end Go.Proofs.S17
namespace Go.Proofs.S17
open Go Go.Ev Go.Proofs Go.Proofs.S17.Q
variable {gl :Gl} {n:Nat}
theorem qhb (h:5<=n){S:Sf}{q:Fl}(hq:FlOk S q)(hS:ArS S) :
  ∃b:Bool,(b=true↔(S.A.length<=8/\S.H.length<=30/\S.L.length<=300)/\VSf S)/\call gl tab n 13 [sfV S q] []=some (.bool b,[],[]):=by
 obtain⟨d,rfl⟩:=wB h
 obtain⟨bf,hbf,cf⟩:=@qbj gl (d+4) (by omega) S q hS
 rw[zah (fd:=fd13) rfl]
 cases bf with
 | false=>exact⟨false,⟨(fun h=>by cases h),fun h=>by have:=hbf.2 h.1;cases this⟩,by simp(disch:=apply zq;omega) only[go_sem,simprocAttr,↓Nat.reduceEqDiff,xx,fd13,m13,cf]⟩
 | true =>
   obtain⟨f1,f2,f3⟩:=hbf.1 rfl
   obtain⟨b2,hb2,c2⟩:=@rvalid_at gl (d+4) (by omega) S q hq (by omega) (by omega) (by omega)
   refine⟨b2,⟨fun h=>⟨⟨f1,f2,f3⟩,hb2.1 h⟩,fun h=>hb2.2 h.2⟩,?_⟩
   cases b2<;>simp(disch:=apply zq;omega) only[go_sem,simprocAttr,↓Nat.reduceEqDiff,xx,fd13,m13,cf,c2]
end Go.Proofs.S17
