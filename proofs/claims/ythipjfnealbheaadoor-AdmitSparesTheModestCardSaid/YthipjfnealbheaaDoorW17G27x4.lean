/-
  Chapter 17: what has gone was needed, and the modest are spared (plain law). No condition.
-/
import Derived.Test.YthipjfnealbheaaDoorW17G26x4
set_option linter.all false
open List renaming length_singleton->wB,length_append->wC,mem_of_mem_eraseIdx->wD,getElem?_eq_none->wE,mem_singleton->wF,mem_append->wG
namespace Go.Proofs.S17
open Go Go.Ev Go.Proofs Go.Proofs.S17.Q
def szs (l:List Ob):Nat->Int
 | 0=>0
 | i+1=>szs l i+(oat l i).sz
def wsA (l:List A3):Nat->Int
 | 0=>0
 | i+1=>wsA l i+(aat l i).w
theorem qhe (l:List Ob):szs l 0=0:=rfl
theorem z8o (l:List Ob)(i:Nat):szs l (i+1)=szs l i+(oat l i).sz:=rfl
theorem qg7 (l:List A3):wsA l 0=0:=rfl
theorem qg6 (l:List A3)(i:Nat):wsA l (i+1)=wsA l i+(aat l i).w:=rfl
theorem ztq {l:List A3}(hv:VA l):∀{i:Nat},i<=l.length->(i:Int)<=wsA l i/\wsA l i<=(i:Int)*1048576
 | 0,_=>by simp[wsA]
 | i+1,hi=>by
   have h1:=ztq hv (show i<=l.length by omega)
   have h3:=(hv.ok i (by omega)).w
   rw[wsA];omega
theorem zx5 {l:List A3}{k:Nat}{v:Int}:∀{i:Nat},i<=l.length->sumW (wnt l k v) i=wsA l i
 | 0,_=>rfl
 | i+1,hi=>by rw[z3l (show i<l.length by omega),zx5 (show i<=l.length by omega),wsA]
theorem z6w {l m:List A3}(h:∀k,k<l.length->(aat m k).w=(aat l k).w):∀{i:Nat},i<=l.length->wsA m i=wsA l i
 | 0,_=>rfl
 | i+1,hi=>by rw[wsA,wsA,z6w h (show i<=l.length by omega),h i (by omega)]
theorem zzn {a:List Ob}(x:Ob){i:Nat}:oat (a++[x]) i=if i=a.length then x else oat a i:=by
 unfold oat
 simp only[List.getD_eq_getElem?_getD]
 by_cases h:i<a.length
 . rw[List.getElem?_append_left h,if_neg (by omega)]
 . rw[List.getElem?_append_right (by omega)]
   by_cases e:i=a.length
   . rw[if_pos e,e];simp
   . rw[if_neg e,wE (by simp;omega),wE (by omega)]
theorem zr0 {a:List Ob}(x:Ob):∀{i:Nat},i<=a.length->szs (a++[x]) i=szs a i
 | 0,_=>rfl
 | i+1,h=>by rw[szs,szs,zr0 x (show i<=a.length by omega),zzn,if_neg (by omega)]
structure GI (S:Sf)(h:Ob)(v:Vt):Prop where
 c:v.S.c=S.c
 al:v.S.A.length=S.A.length
 aa:∀k,k<S.A.length->(aat v.S.A k).t=(aat S.A k).t/\(aat v.S.A k).w=(aat S.A k).w/\(aat v.S.A k).u<=(aat S.A k).u
 hm:∀x∈v.S.H,x∈S.H
 om:∀x∈v.o,x∈S.H/\¬hasN v.S x.nm
 tt:tot v.S=tot S-szs v.o v.o.length
 rm:∀k,k<v.o.length->S.c-tot S+szs v.o k<h.sz
 ln:v.o.length+v.S.H.length=S.H.length
 pt:∀x∈v.o,x.tn≠h.tn->∀k,k<S.A.length->(aat S.A k).t=x.tn->(aat S.A k).w*(S.c/wsA S.A S.A.length)<(aat S.A k).u
theorem gi_0 (S:Sf)(h:Ob):GI S h (v0 S) where
 c:=rfl
 al:=rfl
 aa:=fun k _=>⟨rfl,rfl,Int.le_refl _⟩
 hm:=fun x hx=>hx
 om:=fun x hx=>by cases hx
 tt:=by show tot S=tot S-0;omega
 rm:=fun k hk=>absurd hk (Nat.not_lt_zero k)
 ln:=by show 0+S.H.length=_;omega
 pt:=fun x hx=>by cases hx
theorem z3a {h:Ob}{v:Vt}(hr:ROk h)(hi:IV h v)(hf:v.S.c<tot v.S+h.sz)(hne:vtn v.S h≠h.tn) :
  ∃j,j<v.S.A.length/\vtn v.S h=(aat v.S.A j).t/\(aat v.S.A j).w*(v.S.c/wsA v.S.A v.S.A.length)<(aat v.S.A j).u:=by
 obtain⟨hk,hkt⟩:=zjb hi.hv.va hi.ha
 have hsz:0<=h.sz/\h.sz<=1099511627776:=by have:=hr.sz;omega
 by_cases ho:own v.S h
 . exact absurd (by rw[vtn,if_pos ho]) hne
 . have e:vtn v.S h=(bst v.S.A (fgs v.S h) (idxT v.S.A h.tn) v.S.A.length).1:=by rw[vtn,if_neg ho]
   obtain⟨j,h1,h2,h3,h4,h5⟩:=qie hi.hv.va hk hi.hv.c hsz (zz0 (ze9 hi.hv.va hsz) hi.hv.c) hf ho
   rw[zx5 (Nat.le_refl _)]at h5
   exact⟨j,h1,by rw[e];exact h3,h5⟩
theorem qba {S:Sf}{h:Ob}{v:Vt}(hr:ROk h)(hi:IV h v)(hg:goV h v=true)(g:GI S h v):GI S h (nxt h v):=by
 obtain⟨g1,g2⟩:=qa8 hg
 obtain⟨p1,p2,p3,p4,p5⟩:=zi1 hi g2
 have t2:=zny hi g2
 have l2:=zkk hi g2
 have ho:(nxt h v).o=v.o++[xls v h]:=rfl
 have hS:(nxt h v).S=drp v.S (jls v h) (kls v h):=rfl
 have hx:xls v h=oat v.S.H (jls v h):=rfl
 have hxm:xls v h∈v.S.H:=ze4 p1
 have hsz:1<=(xls v h).sz:=(hi.hv.ho _ p1).r.sz.1
 have hA:(nxt h v).S.A=updA v.S.A (kls v h) (-(xls v h).sz):=rfl
 have hH:(nxt h v).S.H=v.S.H.eraseIdx (jls v h):=rfl
 refine⟨g.c,by rw[hA,za4];exact g.al,fun k hk=> ?_,fun x hx'=> ?_,fun x hx'=> ?_,?_,fun k hk=> ?_,?_,fun x hx' hne k hk hkt=> ?_⟩
 . obtain⟨a1,a2,a3⟩:=g.aa k hk
   rw[hA,zey p3]
   split
   . rename_i e;subst e;exact⟨a1,a2,by simp only;omega⟩
   . exact⟨a1,a2,a3⟩
 . rw[hH]at hx'
   exact g.hm x (wD hx')
 . rw[ho,wG,wF]at hx'
   rcases hx' with hx'|rfl
   . refine⟨(g.om x hx').1,fun⟨i,hi',e⟩=>(g.om x hx').2 ?_⟩
     rw[hH]at hi' e
     obtain⟨i2,h3,h4⟩:=zhq (wD (ze4 hi'))
     exact⟨i2,h3,by rw[h4];exact e⟩
   . refine⟨g.hm _ hxm,?_⟩
     rw[hS,hx]
     exact qf0 hi.hv p1
 . rw[t2,g.tt,ho,wC,wB,szs,zr0 _ (Nat.le_refl _),zzn,if_pos rfl];omega
 . rw[ho,wC,wB]at hk
   rw[ho,zr0 _ (by omega)]
   by_cases e:k<v.o.length
   . exact g.rm k e
   . rw[show k=v.o.length by omega]
     have:=g.tt;have:=g.c;omega
 . rw[ho,wC,wB]
   have:=g.ln;omega
 . rw[ho,wG,wF]at hx'
   rcases hx' with hx'|rfl
   . exact g.pt x hx' hne k hk hkt
   . obtain⟨j,j1,j2,j3⟩:=z3a hr hi g1 (by rw[<-p5];exact hne)
     have hk2:k<v.S.A.length:=by rw[g.al];exact hk
     obtain⟨a1,a2,a3⟩:=g.aa k hk
     have e:k=j:=ziu hi.hv.va hk2 j1 (by rw[a1,hkt,p5,j2])
     subst e
     rw[g.c,z6w (l:=S.A) (fun i hi'=>(g.aa i hi').2.1) (by rw[g.al];exact Nat.le_refl _),g.al,a2]at j3
     omega
theorem z7o {S:Sf}{h:Ob}(hr:ROk h):∀(k:Nat) {v:Vt},IV h v->GI S h v->GI S h (runV h k v)
 | 0,v,_,g=>g
 | k+1,v,hi,g=>by
   by_cases hg:goV h v=true
   . rw[zn8 hg]
     exact z7o hr k (zow hi (qa8 hg).2) (qba hr hi hg g)
   . rw[runV,if_neg hg];exact g
theorem qhp {l:List Ob}(hs:Srt l){x:Ob}(hx:x∈l){i:Nat}(hi:i<l.length)(e:(oat l i).nm=x.nm):oat l i=x:=by
 obtain⟨j,hj,rfl⟩:=zhq hx
 rcases Nat.lt_trichotomy i j with h|h|h
 . have:=hs i j h hj;rw[e,Bl.irrefl]at this;cases this
 . rw[h]
 . have:=hs j i h hi;rw[e,Bl.irrefl]at this;cases this
end Go.Proofs.S17
namespace Go.Proofs.S17
open Go Go.Ev Go.Proofs Go.Proofs.S17.Q
end Go.Proofs.S17
namespace Go.Proofs.S17
open Go Go.Ev Go.Proofs Go.Proofs.S17.Q
variable {gl :Gl} {n:Nat}
structure Free (S:Sf)(h:Ob):Prop where
 r:ROk h
 t:hasT S h.tn
 n:¬hasN S h.nm
 s:h.sz<=S.c
 l:S.H.length<4096
theorem qbf (S:Sf)(h:Ob):(∃e,vErr S h e)\/Free S h:=by
 by_cases h1:ROk h
 case neg=>exact .inl ⟨1,.inl ⟨h1,rfl⟩⟩
 by_cases h2:hasT S h.tn
 case neg=>exact .inl ⟨5,.inr (.inl ⟨h1,h2,rfl⟩)⟩
 by_cases h3:hasN S h.nm
 . exact .inl ⟨6,.inr (.inr (.inl ⟨h1,h2,h3,rfl⟩))⟩
 by_cases h4:S.c<h.sz\/4096<=S.H.length
 . exact .inl ⟨2,.inr (.inr (.inr ⟨h1,h2,h3,h4,rfl⟩))⟩
 . exact .inr ⟨h1,h2,h3,by omega,by omega⟩
theorem z8d {S:Sf}{h:Ob}{e:Int}(he:vErr S h e):(e != 0)=true:=by
 rcases he with ⟨_,rfl⟩|⟨_,_,rfl⟩|⟨_,_,_,rfl⟩|⟨_,_,_,_,rfl⟩<;>rfl
noncomputable def vE (S:Sf)(h:Ob):Vt:=runV h S.H.length (v0 S)
theorem z8e {h:Ob}{v:Vt}(he:vEnd h v≠0):(vEnd h v != 0)=true:=by simpa using he
theorem z24 [Nonempty (H.GlK gl)](hn:16<=n){S:Sf}{h:Ob}(hv:VSf S)(ht:Tn S.A)(f:Free S h) :
  IV h (vE S h)/\GI S h (vE S h)/\goV h (vE S h)=false /\
   (vEnd h (vE S h)≠0->call gl tab n 14 [sfV S (qq false false sO),oV h] []=some (.tup [sfV S (qq false false sO),.lst true .sc [],i64 (vEnd h (vE S h))],[],[])) /\
   (vEnd h (vE S h)=0->∃k,Pn (vE S h).S.H h.nm k/\call gl tab n 14 [sfV S (qq false false sO),oV h] []=some (.tup [sfV (adm (vE S h).S h k (idxT (vE S h).S.A h.tn)) (qq false false sO),.lst false .sc (nms (vE S h).o),i64 0],[],[])):=by
 have hnm:∀i,i<S.H.length->(oat S.H i).nm.length<=5000:=fun i hi=>by have:=(hv.ho i hi).r.nl;omega
 have hi0:=iv_0 hv ht hnm f.t
 obtain⟨v,hiv,hg,hF,hb0,hvc,hcl⟩:=@zx8 gl (n-1) _ (by omega) S h false false sO hi0 (.inr rfl) f.r (by have:=f.r.nl;omega) f.n f.s f.l
 have e:vE S h=v:=hF.symm
 have hgi:=z7o f.r S.H.length hi0 (gi_0 S h)
 rw[<-hF]at hgi
 rw[e]
 exact⟨hiv,hgi,hg,fun h1=>z23 hn hv (.inr rfl) hcl h1,fun h1=>zpr hn hv (.inr rfl) f.r hiv hb0 hcl h1⟩
theorem z6y {h:Ob}{v:Vt}(he:vEnd h v=0):¬v.S.c<tot v.S+h.sz/\v.w=true:=by
 unfold vEnd at he
 by_cases h1:v.S.c<tot v.S+h.sz
 . rw[if_pos h1]at he;cases he
 . rw[if_neg h1]at he
   refine⟨h1,?_⟩
   by_cases h2:v.w=true
   . exact h2
   . rw[if_neg h2]at he;cases he
theorem qgu {S:Sf}{h:Ob}{v:Vt}(f:Free S h)(hi:IV h v)(g:GI S h v)(he:vEnd h v=0){k:Nat}(hp:Pn v.S.H h.nm k) :
  VSf (adm v.S h k (idxT v.S.A h.tn))/\Tn (adm v.S h k (idxT v.S.A h.tn)).A:=by
 have h1:=(z6y he).1
 have hnn:¬hasN v.S h.nm:=fun⟨j,hj,e⟩=>f.n (by
  obtain⟨i,h3,h4⟩:=zhq (g.hm _ (ze4 hj))
  exact⟨i,h3,by rw[h4];exact e⟩)
 exact ztn hi.hv hi.ht f.r hi.ha hnn (by have:=g.ln;have:=f.l;omega) (by omega) hp
end Go.Proofs.S17
