/-
  Chapter 17: the examples. No condition.
-/
import Derived.Test.YthipjfnealbheaaGreatDoorW97G21x3
set_option linter.all false
open Nat renaming le_refl->wB,exists_eq_add_of_le'->wC
open List renaming length_singleton->wD,length_append->wE,mem_of_mem_eraseIdx->wF,getElem?_eq_none->wG,mem_singleton->wH,mem_append->wJ
namespace Go.Proofs.S97
open Go Go.Ev Go.Proofs Go.Proofs.S97.Q
variable {gl :Gl} {n:Nat}
theorem qg1 {l:List Ob}{x:List UInt8}(h:∀j,j<l.length->Bl.lt (oat l j).nm x=true):Pn l x l.length:=⟨wB _,h,fun j h1 h2=>by omega⟩
theorem z1p {S:Sf}{x:List UInt8}(h:∀j,j<S.H.length->Bl.lt (oat S.H j).nm x=true):¬hasN S x:=fun⟨j,hj,e⟩=>Bl.ne (h j hj) e
theorem rok {o:Ob}(h1:1<=o.nm.length/\o.nm.length<=4096)(h2:1<=o.sz/\o.sz<=1099511627776)(h3:0<=o.la/\o.la<=1099511627776):ROk o:=⟨h1,h2,h3⟩
section
variable [Nonempty (H.GlK gl)]
theorem ex_a (hn:16<=n):call gl tab n 8 [sfV E0 (qq true false .sc),oV Oa] []=some (.tup [sfV E1 (qq false false sO),.lst false .sc [],i64 0],[],[])/\VSf E1:=by
 have hr:ROk Oa:=rok (by decide) (by decide) (by decide)
 have hnn:¬hasN E0 Oa.nm:=z1p fun j hj=>by have:j<([]:List Ob).length:=hj;simp at this
 have ha:hasT E0 Oa.tn:=⟨0,by decide,rfl⟩
 obtain⟨k,hp,c⟩:=@zs1 gl n _ hn E0 Oa true false .sc qa2 tn_2 (fun j hj=>by have:j<([]:List Ob).length:=hj;simp at this) (.inl rfl) hr (by decide) ha hnn (by decide) (by decide)
 have hk:k=0:=by have:k<=0:=hp.le;omega
 subst hk
 have e:adm E0 Oa 0 (idxT E0.A Oa.tn)=E1:=rfl
 have v:=(zuz qa2 tn_2 hr ha hnn (by decide) (by decide) hp).1
 rw[e]at c v
 exact⟨c,v⟩
theorem qg8 {o:Ob}{x:List UInt8}(h:Bl.lt o.nm x=true):∀j,j<[o].length->Bl.lt (oat [o] j).nm x=true:=fun j hj=>by
 match j,hj with
 | 0,_=>exact h
theorem zz2 {o p:Ob}{x:List UInt8}(h:Bl.lt o.nm x=true)(h':Bl.lt p.nm x=true):∀j,j<[o,p].length->Bl.lt (oat [o,p] j).nm x=true:=fun j hj=>by
 match j,hj with
 | 0,_=>exact h
 | 1,_=>exact h'
theorem ex_b (hn:16<=n):call gl tab n 8 [sfV E1 (qq false false sO),oV Ob'] []=some (.tup [sfV E2 (qq false false sO),.lst false .sc [],i64 0],[],[])/\VSf E2:=by
 have hv1:=(@ex_a gl 16 _ (wB _)).2
 have hr:ROk Ob':=rok (by decide) (by decide) (by decide)
 have hlt:=qg8 (o:=Oa) (x:=Ob'.nm) (by decide)
 have hnn:¬hasN E1 Ob'.nm:=z1p hlt
 have ha:hasT E1 Ob'.tn:=⟨0,by decide,rfl⟩
 obtain⟨k,hp,c⟩:=@zs1 gl n _ hn E1 Ob' false false sO hv1 tn_2 (fun j hj=>by
  match j,hj with
  | 0,_=>decide) (.inr rfl) hr (by decide) ha hnn (by decide) (by decide)
 have hk:k=1:=qcq hp (qg1 hlt)
 subst hk
 have e:adm E1 Ob' 1 (idxT E1.A Ob'.tn)=E2:=rfl
 have v:=(zuz hv1 tn_2 hr ha hnn (by decide) (by decide) hp).1
 rw[e]at c v
 exact⟨c,v⟩
theorem ex_c (hn:16<=n):call gl tab n 8 [sfV E2 (qq false false sO),oV Oc] []=some (.tup [sfV E3 (qq false false sO),.lst false .sc [.str [98],.str [97]],i64 0],[],[]):=by
 have hv2:=(@ex_b gl 16 _ (wB _)).2
 have hr:ROk Oc:=rok (by decide) (by decide) (by decide)
 have hlt:=zz2 (o:=Oa) (p:=Ob') (x:=Oc.nm) (by decide) (by decide)
 have hnn:¬hasN E2 Oc.nm:=z1p hlt
 have ha:hasT E2 Oc.tn:=⟨1,by decide,rfl⟩
 obtain⟨v,hiv,hg,hF,hb0,hvc,hcl⟩:=@zu3 gl (n-1) _ (by omega) E2 Oc false false sO (iv_0 hv2 tn_2 (fun j hj=>by
  match j,hj with
  | 0,_=>decide
  | 1,_=>decide) ha) (.inr rfl) hr (by decide) hnn (by decide) (by decide)
 obtain⟨r1,r2,r3,r4⟩:=qki
 rw[show(2:Nat)=E2.H.length from rfl,<-hF]at r1 r2 r3 r4
 have he:vEnd Oc v=0:=by
  rw[vEnd,if_neg,if_pos r3]
  rw[r1];decide
 obtain⟨k,hp,c⟩:=zqv hn hv2 (.inr rfl) hr hiv hb0 hcl he
 rw[r1]at hp
 have hk:k=0:=by have:k<=0:=hp.le;omega
 subst hk
 rw[r1,r2]at c
 exact c
theorem ex_d (hn:16<=n):call gl tab n 8 [sfV E2 (qq false false sO),oV Od] []=some (.tup [sfV E2 (qq false false sO),.lst true .sc [],i64 2],[],[]):=by
 have hv2:=(@ex_b gl 16 _ (wB _)).2
 have hr:ROk Od:=rok (by decide) (by decide) (by decide)
 have hlt:=zz2 (o:=Oa) (p:=Ob') (x:=Od.nm) (by decide) (by decide)
 exact zw5 hn hv2 (.inr rfl) (.inr (.inr (.inr ⟨hr,⟨0,by decide,rfl⟩,z1p hlt,.inl (by decide),rfl⟩)))
theorem ex_z (hn:16<=n):call gl tab n 14 [sfV E2 (qq false false sO),.str [122]] []=some (.tup [sfV E2 (qq false false sO),i64 5],[],[]):=by
 have hv2:=(@ex_b gl 16 _ (wB _)).2
 have hlt:=zz2 (o:=Oa) (p:=Ob') (x:=[122]) (by decide) (by decide)
 exact z08 hn hv2 (.inr rfl) (z1p hlt)
abbrev Wv (u v:Int)(fh:Bool)(mh:Sh)(H lz:List AV):AV:=.agg [i64 10,.lst false sA [.agg [i64 1,i64 1,i64 u],.agg [i64 2,i64 1,i64 v]],.lst fh mh H,.agg [i64 16,i64 100,i64 0,.lst false .sc lz]]
theorem z0t (hn:17<=n):call gl tab n 6 [] []=some (.bool true,[],[]):=by
 obtain⟨d,rfl⟩:=wC hn
 obtain⟨bp,hbp,cp⟩:=@K.rpower_at gl (d+15) (by omega) 16
 rw[hbp.2 ⟨4,by omega,by decide⟩]at cp
 have c1:call gl tab (d+16) 19 [i64 16,i64 100] []=some (.agg [.agg [i64 16,i64 100,i64 0,.lst false .sc (K.ns L0)],i64 0],[],[]):=@K.rnew_ok gl (d+16) (by omega) 16 100 (by omega) (by omega) cp
 have c2:∀f f',call gl tab (d+16) 18 [i64 10,.lst f sA [.agg [i64 1,i64 1,i64 0],.agg [i64 2,i64 1,i64 0]],.agg [i64 16,i64 100,i64 0,.lst f' .sc (K.ns L0)]] []=some (.tup [Wv 0 0 true .sc [] (K.ns L0),i64 0],[],[]):=fun f f'=>@qhk gl (d+16) (by omega) f f' 10 A0 16 100 0 L0 (by decide) (by omega) qln
 obtain⟨bv,hbv,c3'⟩:=@valid_at gl (d+16) (by omega) E0 (qq true false .sc) ⟨.inr rfl,.inl rfl⟩ (by decide) (by decide) (by decide) (by decide)
 rw[hbv.2 qa2]at c3'
 have c3:call gl tab (d+16) 20 [Wv 0 0 true .sc [] (K.ns L0)] []=some (.bool true,[],[]):=c3'
 have c4:call gl tab (d+16) 8 [Wv 0 0 true .sc [] (K.ns L0),oV Oa] []=some (.tup [Wv 8 0 false sO [oV Oa] (K.ns L0),.lst false .sc [],i64 0],[],[]):=(@ex_a gl (d+16) _ (by omega)).1
 have c5:call gl tab (d+16) 8 [Wv 8 0 false sO [oV Oa] (K.ns L0),oV Ob'] []=some (.tup [Wv 10 0 false sO [oV Oa,oV Ob'] (K.ns L0),.lst false .sc [],i64 0],[],[]):=(@ex_b gl (d+16) _ (by omega)).1
 have c6:call gl tab (d+16) 8 [Wv 10 0 false sO [oV Oa,oV Ob'] (K.ns L0),oV Oc] []=some (.tup [Wv 0 4 false sO [oV Oc] (K.ns L0),.lst false .sc [.str [98],.str [97]],i64 0],[],[]):=@ex_c gl (d+16) _ (by omega)
 have c7:call gl tab (d+16) 8 [Wv 10 0 false sO [oV Oa,oV Ob'] (K.ns L0),oV Od] []=some (.tup [Wv 10 0 false sO [oV Oa,oV Ob'] (K.ns L0),.lst true .sc [],i64 2],[],[]):=@ex_d gl (d+16) _ (by omega)
 have c8:call gl tab (d+16) 14 [Wv 10 0 false sO [oV Oa,oV Ob'] (K.ns L0),.str [122]] []=some (.tup [Wv 10 0 false sO [oV Oa,oV Ob'] (K.ns L0),i64 5],[],[]):=@ex_z gl (d+16) _ (by omega)
 clear cp hbp c3' hbv
 generalize K.ns L0=lz at *
 rw[zaf (fd:=fd6) rfl]
 simp(disch:=apply zq;omega) only[go_sem,simprocAttr,↓Nat.reduceEqDiff,xx,fd6,m6,c1,c2,c3,c4,c5,c6,c7,c8]
end
end Go.Proofs.S97
namespace Go.Proofs.S97
open Go Go.Ev Go.Proofs Go.Proofs.S97.Q
variable {gl :Gl} {n:Nat}
abbrev kI :Kd:=.int .i64
abbrev kAc :Kd:=.st [.int .i64,.int .i64,.int .i64]
abbrev kO :Kd:=.st [.str,.int .i64,.int .i64,.int .i64]
abbrev kK :Kd:=.st [.int .i64,.int .i64,.int .i64,.sl (.int .i64)]
abbrev kF :Kd:=.st [.int .i64,.sl kAc,.sl kO,kK]
theorem kdA :∀{l:List AV},(∀x∈l,HasKd kAc x)->∃r:List A3,l=ac r/\Tn r
 | [],_=>⟨[],rfl,fun i hi=>by simp at hi⟩
 | x::l,h=>by
   obtain⟨k,rfl,hx⟩:=h x (by simp)
   simp only[HasKds]at hx
   obtain⟨_,_,rfl,⟨a,rfl,ha⟩,_,_,rfl,⟨b,rfl,_⟩,_,_,rfl,⟨c,rfl,_⟩,rfl⟩:=hx
   obtain⟨r,rfl,hr⟩:=kdA (l:=l) fun y hy=>h y (by simp[hy])
   refine⟨⟨a,b,c⟩::r,rfl,fun i hi=> ?_⟩
   cases i with
   | zero=>exact ha.2
   | succ i=>exact hr i (by simpa using hi)
theorem kdO :∀{l:List AV},(∀x∈l,HasKd kO x)->∃r:List Ob,l=hs r
 | [],_=>⟨[],rfl⟩
 | x::l,h=>by
   obtain⟨k,rfl,hx⟩:=h x (by simp)
   simp only[HasKds]at hx
   obtain⟨_,_,rfl,⟨a,rfl,_⟩,_,_,rfl,⟨b,rfl,_⟩,_,_,rfl,⟨c,rfl,_⟩,_,_,rfl,⟨e,rfl,_⟩,rfl⟩:=hx
   obtain⟨r,rfl⟩:=kdO (l:=l) fun y hy=>h y (by simp[hy])
   exact⟨⟨a,b,c,e⟩::r,rfl⟩
theorem kdN :∀{l:List AV},(∀x∈l,HasKd kI x)->∃r:List Int,l=K.ns r
 | [],_=>⟨[],rfl⟩
 | x::l,h=>by
   obtain⟨a,rfl,_⟩:=h x (by simp)
   obtain⟨r,rfl⟩:=kdN (l:=l) fun y hy=>h y (by simp[hy])
   exact⟨a::r,rfl⟩
structure ArS (S:Sf):Prop where
 t:Tn S.A
 w:S.w<=9223372036854775807
 a:S.A.length<=9223372036854775807
 h:S.H.length<=9223372036854775807
 l:S.L.length<=9223372036854775807
theorem kdK {x:AV}(h:HasKd kK x):∃w s a:Int,∃L:List Int,x= .agg [i64 w,i64 s,i64 a,.lst false .sc (K.ns L)]/\w<=9223372036854775807/\L.length<=9223372036854775807:=by
 obtain⟨k,rfl,hx⟩:=h
 simp only[HasKds]at hx
 obtain⟨_,_,rfl,⟨w,rfl,hw⟩,_,_,rfl,⟨s,rfl,_⟩,_,_,rfl,⟨a,rfl,_⟩,_,_,rfl,⟨d,rfl,hd,hl⟩,rfl⟩:=hx
 obtain⟨L,rfl⟩:=kdN hl
 refine⟨w,s,a,L,rfl,hw.2,?_⟩
 have:=hd
 simp[Go.maxLen,K.ns_length]at this
 omega
theorem kdF {x:AV}(h:HasKd kF x):∃S:Sf,x=sfV S (qq false false sO)/\ArS S:=by
 obtain⟨k,rfl,hx⟩:=h
 simp only[HasKds]at hx
 obtain⟨_,_,rfl,⟨c,rfl,_⟩,_,_,rfl,⟨d1,rfl,hd1,h1⟩,_,_,rfl,⟨d2,rfl,hd2,h2⟩,_,_,rfl,h3,rfl⟩:=hx
 obtain⟨A,rfl,hA⟩:=kdA h1
 obtain⟨H,rfl⟩:=kdO h2
 obtain⟨w,s,a,L,rfl,hw,hL⟩:=kdK h3
 refine⟨⟨c,A,H,w,s,a,L⟩,rfl,hA,hw,?_,?_,hL⟩
 . have:=hd1;simp[Go.maxLen,zab]at this;show A.length<=_;omega
 . have:=hd2;simp[Go.maxLen,zaa]at this;show H.length<=_;omega
theorem qee (h:1<=n)(S:Sf)(q:Fl)(hS:ArS S) :
  ∃b:Bool,(b=true↔S.A.length<=8/\S.H.length<=30/\S.L.length<=300)/\call gl tab n 17 [sfV S q] []=some (.bool b,[],[]):=by
 obtain⟨d,rfl⟩:=wC h
 have ha:=hS.a
 have hh:=hS.h
 have hL:=hS.l
 rw[zaf (fd:=fd17) rfl]
 by_cases h1:S.A.length<=8
 case neg=>exact⟨false,⟨(fun h=>by cases h),fun h=>absurd h.1 h1⟩,by simp(disch:=apply zq;omega) only[go_sem,simprocAttr,↓Nat.reduceEqDiff,xx,fd17,m17,zab,zaa,K.ns_length]⟩
 by_cases h2:S.H.length<=30
 case neg=>exact⟨false,⟨(fun h=>by cases h),fun h=>absurd h.2.1 h2⟩,by simp(disch:=apply zq;omega) only[go_sem,simprocAttr,↓Nat.reduceEqDiff,xx,fd17,m17,zab,zaa,K.ns_length]⟩
 by_cases h3:S.L.length<=300
 case neg=>exact⟨false,⟨(fun h=>by cases h),fun h=>absurd h.2.2 h3⟩,by simp(disch:=apply zq;omega) only[go_sem,simprocAttr,↓Nat.reduceEqDiff,xx,fd17,m17,zab,zaa,K.ns_length]⟩
 exact⟨true,⟨fun _=>⟨h1,h2,h3⟩,fun _=>rfl⟩,by simp(disch:=apply zq;omega) only[go_sem,simprocAttr,↓Nat.reduceEqDiff,xx,fd17,m17,zab,zaa,K.ns_length]⟩
end Go.Proofs.S97
namespace Go.Proofs.S97
open Go Go.Ev Go.Proofs Go.Proofs.S97.Q
theorem qi3 {S:Sf}(hv:VSf S){j k:Nat}(hj:j<S.H.length):¬hasN (drp S j k) (oat S.H j).nm:=by
 rintro ⟨i,hi,e⟩
 have hl:(S.H.eraseIdx j).length=S.H.length-1:=by rw[List.length_eraseIdx,if_pos hj]
 have hi2:i<(S.H.eraseIdx j).length:=hi
 have e2:(oat (S.H.eraseIdx j) i).nm=(oat S.H j).nm:=e
 rw[zex hj]at e2
 have hs:=zd1 hv.ho
 by_cases h:i<j
 . rw[if_pos h]at e2
   have:=hs i j h hj;rw[e2,Bl.irrefl]at this;cases this
 . rw[if_neg h]at e2
   have:=hs j (i+1) (by omega) (by omega);rw[e2,Bl.irrefl]at this;cases this
end Go.Proofs.S97
namespace Go.Proofs.S97
open Go Go.Ev Go.Proofs Go.Proofs.S97.Q
variable {gl :Gl} {n:Nat}
theorem qkd (h:5<=n){S:Sf}{q:Fl}(hq:FlOk S q)(hS:ArS S) :
  ∃b:Bool,(b=true↔(S.A.length<=8/\S.H.length<=30/\S.L.length<=300)/\VSf S)/\call gl tab n 5 [sfV S q] []=some (.bool b,[],[]):=by
 obtain⟨d,rfl⟩:=wC h
 obtain⟨bf,hbf,cf⟩:=@qee gl (d+4) (by omega) S q hS
 rw[zaf (fd:=fd5) rfl]
 cases bf with
 | false=>exact⟨false,⟨(fun h=>by cases h),fun h=>by have:=hbf.2 h.1;cases this⟩,by simp(disch:=apply zq;omega) only[go_sem,simprocAttr,↓Nat.reduceEqDiff,xx,fd5,m5,cf]⟩
 | true =>
   obtain⟨f1,f2,f3⟩:=hbf.1 rfl
   obtain⟨b2,hb2,c2⟩:=@rvalid_at gl (d+4) (by omega) S q hq (by omega) (by omega) (by omega)
   refine⟨b2,⟨fun h=>⟨⟨f1,f2,f3⟩,hb2.1 h⟩,fun h=>hb2.2 h.2⟩,?_⟩
   cases b2<;>simp(disch:=apply zq;omega) only[go_sem,simprocAttr,↓Nat.reduceEqDiff,xx,fd5,m5,cf,c2]
end Go.Proofs.S97
namespace Go.Proofs.S97
open Go Go.Ev Go.Proofs Go.Proofs.S97.Q
def szs (l:List Ob):Nat->Int
 | 0=>0
 | i+1=>szs l i+(oat l i).sz
def wsA (l:List A3):Nat->Int
 | 0=>0
 | i+1=>wsA l i+(aat l i).w
theorem zzt {l:List A3}{k:Nat}{v:Int}:∀{i:Nat},i<=l.length->sumW (wnt l k v) i=wsA l i
 | 0,_=>rfl
 | i+1,hi=>by rw[z5h (show i<l.length by omega),zzt (show i<=l.length by omega),wsA]
theorem z9f {l m:List A3}(h:∀k,k<l.length->(aat m k).w=(aat l k).w):∀{i:Nat},i<=l.length->wsA m i=wsA l i
 | 0,_=>rfl
 | i+1,hi=>by rw[wsA,wsA,z9f h (show i<=l.length by omega),h i (by omega)]
theorem zpr {a:List Ob}(x:Ob){i:Nat}:oat (a++[x]) i=if i=a.length then x else oat a i:=by
 unfold oat
 simp only[List.getD_eq_getElem?_getD]
 by_cases h:i<a.length
 . rw[List.getElem?_append_left h,if_neg (by omega)]
 . rw[List.getElem?_append_right (by omega)]
   by_cases e:i=a.length
   . rw[if_pos e,e];simp
   . rw[if_neg e,wG (by simp;omega),wG (by omega)]
theorem zta {a:List Ob}(x:Ob):∀{i:Nat},i<=a.length->szs (a++[x]) i=szs a i
 | 0,_=>rfl
 | i+1,h=>by rw[szs,szs,zta x (show i<=a.length by omega),zpr,if_neg (by omega)]
structure GI (S:Sf)(h:Ob)(v:Vt):Prop where
 c:v.S.c=S.c
 al:v.S.A.length=S.A.length
 aa:∀k,k<S.A.length->(aat v.S.A k).t=(aat S.A k).t/\(aat v.S.A k).w=(aat S.A k).w/\(aat v.S.A k).u<=(aat S.A k).u
 hm:∀x∈v.S.H,x∈S.H
 om:∀x∈v.o,x∈S.H/\¬hasN v.S x.nm
 tt:tot v.S=tot S-szs v.o v.o.length
 rm:∀k,k<v.o.length->S.c-tot S+szs v.o k<h.sz
 ln:v.o.length+v.S.H.length=S.H.length
 pt:∀x∈v.o,x.tn≠h.tn->∀k,k<S.A.length->(aat S.A k).t=x.tn->(aat S.A k).w*(S.c/wsA S.A S.A.length)<(aat S.A k).u
theorem gi_0 (S:Sf)(h:Ob):GI S h (v0 S) where
 c:=rfl
 al:=rfl
 aa:=fun k _=>⟨rfl,rfl,Int.le_refl _⟩
 hm:=fun x hx=>hx
 om:=fun x hx=>by cases hx
 tt:=by show tot S=tot S-0;omega
 rm:=fun k hk=>absurd hk (Nat.not_lt_zero k)
 ln:=by show 0+S.H.length=_;omega
 pt:=fun x hx=>by cases hx
theorem z48 {h:Ob}{v:Vt}(hr:ROk h)(hi:IV h v)(hf:v.S.c<tot v.S+h.sz)(hne:vtn v.S h≠h.tn) :
  ∃j,j<v.S.A.length/\vtn v.S h=(aat v.S.A j).t/\(aat v.S.A j).w*(v.S.c/wsA v.S.A v.S.A.length)<(aat v.S.A j).u:=by
 obtain⟨hk,hkt⟩:=zic hi.hv.va hi.ha
 have hsz:0<=h.sz/\h.sz<=1099511627776:=by have:=hr.sz;omega
 by_cases ho:own v.S h
 . exact absurd (by rw[vtn,if_pos ho]) hne
 . have e:vtn v.S h=(bst v.S.A (fgs v.S h) (idxT v.S.A h.tn) v.S.A.length).1:=by rw[vtn,if_neg ho]
   obtain⟨j,h1,h2,h3,h4,h5⟩:=qmc hi.hv.va hk hi.hv.c hsz (zvw (zd0 hi.hv.va hsz) hi.hv.c) hf ho
   rw[zzt (wB _)]at h5
   exact⟨j,h1,by rw[e];exact h3,h5⟩
theorem qd6 {S:Sf}{h:Ob}{v:Vt}(hr:ROk h)(hi:IV h v)(hg:goV h v=true)(g:GI S h v):GI S h (nxt h v):=by
 obtain⟨g1,g2⟩:=z7q hg
 obtain⟨p1,p2,p3,p4,p5⟩:=zgg hi g2
 have t2:=zo2 hi g2
 have l2:=zi9 hi g2
 have ho:(nxt h v).o=v.o++[xls v h]:=rfl
 have hS:(nxt h v).S=drp v.S (jls v h) (kls v h):=rfl
 have hx:xls v h=oat v.S.H (jls v h):=rfl
 have hxm:xls v h∈v.S.H:=zib p1
 have hsz:1<=(xls v h).sz:=(hi.hv.ho _ p1).r.sz.1
 have hA:(nxt h v).S.A=updA v.S.A (kls v h) (-(xls v h).sz):=rfl
 have hH:(nxt h v).S.H=v.S.H.eraseIdx (jls v h):=rfl
 refine⟨g.c,by rw[hA,zav];exact g.al,fun k hk=> ?_,fun x hx'=> ?_,fun x hx'=> ?_,?_,fun k hk=> ?_,?_,fun x hx' hne k hk hkt=> ?_⟩
 . obtain⟨a1,a2,a3⟩:=g.aa k hk
   rw[hA,zfe p3]
   split
   . rename_i e;subst e;exact⟨a1,a2,by simp only;omega⟩
   . exact⟨a1,a2,a3⟩
 . rw[hH]at hx'
   exact g.hm x (wF hx')
 . rw[ho,wJ,wH]at hx'
   rcases hx' with hx'|rfl
   . refine⟨(g.om x hx').1,fun⟨i,hi',e⟩=>(g.om x hx').2 ?_⟩
     rw[hH]at hi' e
     obtain⟨i2,h3,h4⟩:=zpt (wF (zib hi'))
     exact⟨i2,h3,by rw[h4];exact e⟩
   . refine⟨g.hm _ hxm,?_⟩
     rw[hS,hx]
     exact qi3 hi.hv p1
 . rw[t2,g.tt,ho,wE,wD,szs,zta _ (wB _),zpr,if_pos rfl];omega
 . rw[ho,wE,wD]at hk
   rw[ho,zta _ (by omega)]
   by_cases e:k<v.o.length
   . exact g.rm k e
   . rw[show k=v.o.length by omega]
     have:=g.tt;have:=g.c;omega
 . rw[ho,wE,wD]
   have:=g.ln;omega
 . rw[ho,wJ,wH]at hx'
   rcases hx' with hx'|rfl
   . exact g.pt x hx' hne k hk hkt
   . obtain⟨j,j1,j2,j3⟩:=z48 hr hi g1 (by rw[<-p5];exact hne)
     have hk2:k<v.S.A.length:=by rw[g.al];exact hk
     obtain⟨a1,a2,a3⟩:=g.aa k hk
     have e:k=j:=zgv hi.hv.va hk2 j1 (by rw[a1,hkt,p5,j2])
     subst e
     rw[g.c,z9f (l:=S.A) (fun i hi'=>(g.aa i hi').2.1) (by rw[g.al];exact wB _),g.al,a2]at j3
     omega
theorem qae {S:Sf}{h:Ob}(hr:ROk h):∀(k:Nat) {v:Vt},IV h v->GI S h v->GI S h (runV h k v)
 | 0,v,_,g=>g
 | k+1,v,hi,g=>by
   by_cases hg:goV h v=true
   . rw[zjs hg]
     exact qae hr k (zmo hi (z7q hg).2) (qd6 hr hi hg g)
   . rw[runV,if_neg hg];exact g
end Go.Proofs.S97
