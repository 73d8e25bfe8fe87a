/-
  Chapter 17: a shelf with an object is valid (plain law). No condition.
-/
import Derived.Test.YthipjfnealbheaaGreatDoorW97G22x4
import Derived.Test.YthipjfnealbheaaGreatDoorW97G13x4
set_option linter.all false
open Nat renaming le_refl->wB,exists_eq_add_of_le'->wC
namespace Go.Proofs.S97
open Go Go.Ev Go.Proofs Go.Proofs.S97.Q
theorem zo7 {l:List Ob}{k:Nat}(hk:k<=l.length)(o:Ob)(i:Nat):oat (insO l k o) i=if i<k then oat l i else if i=k then o else oat l (i-1):=by
 unfold oat insO
 simp only[List.getD_eq_getElem?_getD]
 by_cases h1:i<k
 . rw[if_pos h1,List.getElem?_append_left (by simp;omega),List.getElem?_take_of_lt h1]
 . rw[if_neg h1,List.getElem?_append_right (by simp;omega)]
   simp only[List.length_take,Nat.min_eq_left hk]
   by_cases h2:i=k
   . subst h2;rw[if_pos rfl];simp
   . rw[if_neg h2]
     obtain⟨m,rfl⟩:∃m,i=k+(m+1):=⟨i-k-1,by omega⟩
     rw[show k+(m+1)-k=m+1 by omega,List.getElem?_cons_succ,List.getElem?_drop]
     congr 2
theorem qay {l:List Ob}(hs:Srt l){o:Ob}{k:Nat}(hp:Pn l o.nm k)(hn:¬∃j,j<l.length/\(oat l j).nm=o.nm):Srt (insO l k o):=by
 have hi:∀j,k<=j->j<l.length->Bl.lt o.nm (oat l j).nm=true:=fun j h1 h2=>by
  rcases Bl.tri (oat l j).nm o.nm with h|h|h
  . have:=hp.hi j h1 h2;rw[h]at this;cases this
  . exact absurd ⟨j,h2,h⟩ hn
  . exact h
 intro a b hab hb
 rw[zgg hp.le]at hb
 rw[zo7 hp.le,zo7 hp.le]
 by_cases h1:b<k
 . rw[if_pos (show a<k by omega),if_pos h1];exact hs a b hab (by have:=hp.le;omega)
 . rw[if_neg h1]
   by_cases h2:b=k
   . rw[if_pos h2,if_pos (show a<k by omega)];exact hp.lo a (by omega)
   . rw[if_neg h2]
     by_cases h3:a<k
     . rw[if_pos h3]
       exact Bl.trans (hp.lo a h3) (hi (b-1) (by omega) (by omega))
     . rw[if_neg h3]
       by_cases h4:a=k
       . rw[if_pos h4];exact hi (b-1) (by omega) (by omega)
       . rw[if_neg h4];exact hs (a-1) (b-1) (by omega) (by omega)
theorem zsn (t:Int):∀(l m:List Ob),usL t (l++m)=usL t l+usL t m
 | [],m=>by simp[usL]
 | x::l,m=>by rw[List.cons_append,usL,usL,zsn t l m];omega
theorem qad {l:List Ob}{k:Nat}(o:Ob)(t:Int):usd (insO l k o) t (insO l k o).length=usd l t l.length+if o.tn=t then o.sz else 0:=by
 rw[zje,zje,insO,zsn,usL]
 conv=>rhs;rw[<-List.take_append_drop k l,zsn]
 omega
theorem z4f {S:Sf}(hv:VSf S){h:Ob}(hr:ROk h){j:Nat}(hj:j<S.A.length)(hjt:(aat S.A j).t=h.tn){k:Nat}(hp:Pn S.H h.nm k)(hn:¬hasN S h.nm)(hc:tot S+h.sz<=S.c)(hl:S.H.length<4096):VSf (adm S h k j):=by
 have hR:RL S.H:=fun i hi=>(hv.ho i hi).r
 have hlen:=zgg hp.le h
 have hkv:=hv.va.ok j hj
 have hge:=zsp hv.va (k:=j) (wB _) hj
 have hc':sumU S.A S.A.length+h.sz<=S.c:=hc
 have hcc:=hv.c
 have hsz:=hr.sz
 have he:uerr S.A j h.sz true=0:=by rw[uerr,if_pos rfl,if_neg];have:=hkv.u;omega
 have hsrt:=qay (zcl hv.ho) hp hn
 refine⟨hv.c,zm2 hv.va hj he,hv.vk,?_,?_,?_,?_⟩
 . show(insO S.H k h).length<=4096
   omega
 . intro i hi
   have hi':i<S.H.length+1:=by rw[<-hlen];exact hi
   refine⟨?_,fun h0=>hsrt (i-1) i (by omega) hi,?_⟩
   . show ROk (oat (insO S.H k h) i)
     rw[zo7 hp.le]
     split
     . exact hR i (by have:=hp.le;omega)
     . split
       . exact hr
       . exact hR (i-1) (by omega)
   . have:∃k',k'<S.A.length/\(aat S.A k').t=(oat (insO S.H k h) i).tn:=by
      rw[zo7 hp.le]
      split
      . exact(hv.ho i (by have:=hp.le;omega)).t
      . split
        . exact⟨j,hj,hjt⟩
        . exact(hv.ho (i-1) (by omega)).t
     obtain⟨k',hk',e⟩:=this
     exact⟨k',by show k'<(updA _ _ _).length;rw[za3];exact hk',by show(aat (updA _ _ _) k').t=_;rw[zk8 hj];exact e⟩
 . intro k' hk'
   have hk2:k'<S.A.length:=by have:k'<(updA S.A j h.sz).length:=hk';rwa [za3]at this
   show(aat (updA S.A j h.sz) k').u=usd (insO S.H k h) (aat (updA S.A j h.sz) k').t (insO S.H k h).length
   rw[zk8 hj,qad,zgn hj]
   by_cases e:k'=j
   . subst e
     rw[if_pos rfl,if_pos hjt.symm]
     simp only
     rw[hv.hu k' hk2]
   . rw[if_neg e,if_neg,hv.hu k' hk2]
     . omega
     . intro h'
       exact e (zjg hv.va hk2 hj (h'.symm.trans hjt.symm))
 . show sumU (updA S.A j h.sz) (updA S.A j h.sz).length<=S.c
   rw[za3,zku hj,if_pos hj]
   exact hc'
theorem qiy {S:Sf}(h:Tn S.A){o:Ob}{k j:Nat}(hj:j<S.A.length):Tn (adm S o k j).A:=fun i hi=>by
 show(aat (updA _ _ _) i).t<=_
 rw[zk8 hj]
 refine h i ?_
 have:i<(updA S.A j o.sz).length:=hi
 rwa [za3]at this
theorem iv_0 {S:Sf}(hv:VSf S)(ht:Tn S.A)(hnm:∀i,i<S.H.length->(oat S.H i).nm.length<=5000){h:Ob}(ha:hasT S h.tn):IV h (v0 S):=by
 have hw:1<=S.w:=K.isP_pos hv.vk.vp
 exact⟨hv,ht,⟨⟨hw,hv.vk.vw⟩,hv.vk.vn⟩,(fun e he=>by cases he),hnm,by have:=hv.hn;show([]:List Ob).length+S.H.length<=8192;simp;omega,ha⟩
end Go.Proofs.S97
namespace Go.Proofs.S97
open Go Go.Ev Go.Proofs Go.Proofs.S97.Q
variable {gl :Gl} {n:Nat}
theorem qc8 {S:Sf}{h:Ob}(hc:¬S.c<tot S+h.sz):goV h (v0 S)=false:=by
 unfold goV
 rw[Bool.and_eq_false_iff]
 exact .inl (decide_eq_false hc)
theorem zsi [Nonempty (H.GlK gl)](hn:16<=n){S:Sf}{h:Ob}{fh fl:Bool}{mh:Sh}(hv:VSf S)(ht:Tn S.A)(hnm:∀i,i<S.H.length->(oat S.H i).nm.length<=5000)(hmh:Mk S.H mh sO)
  (hr:ROk h) (hhn:h.nm.length<=5000) (ha:hasT S h.tn) (hnn:¬hasN S h.nm) (hl:S.H.length<4096) (hc:tot S+h.sz<=S.c) :
  ∃k,Pn S.H h.nm k/\call gl tab n 8 [sfV S (qq fh fl mh),oV h] []=some (.tup [sfV (adm S h k (idxT S.A h.tn)) (qq false fl sO),.lst false .sc [],i64 0],[],[]):=by
 have ht0:0<=tot S:=(zdd hv.va (wB _)).1
 obtain⟨v,hiv,hg,hF,hb0,hvc,hcl⟩:=@z8p gl (n-1) _ (by omega) S h fh fl mh (iv_0 hv ht hnm ha) hmh hr hhn hnn (by omega) hl
 have e0:v=v0 S:=by rw[hF,zqm (qc8 (by omega))]
 have he:vEnd h v=0:=by
  rw[e0,vEnd,if_neg (show ¬(v0 S).S.c<tot (v0 S).S+h.sz from fun h'=>by have h2:S.c<tot S+h.sz:=h';omega),if_pos (show(v0 S).w=true from rfl)]
 obtain⟨k,hp,hcall⟩:=zwl hn hv hmh hr hiv hb0 hcl he
 rw[e0]at hp hcall
 exact⟨k,hp,hcall⟩
theorem z4g {S:Sf}(hv:VSf S)(ht:Tn S.A){h:Ob}(hr:ROk h)(ha:hasT S h.tn)(hnn:¬hasN S h.nm)(hl:S.H.length<4096)(hc:tot S+h.sz<=S.c){k:Nat}(hp:Pn S.H h.nm k) :
  VSf (adm S h k (idxT S.A h.tn))/\Tn (adm S h k (idxT S.A h.tn)).A:=by
 obtain⟨g1,g2⟩:=zh7 hv.va ha
 exact⟨z4f hv hr g1 g2 hp hnn hc hl,qiy ht g1⟩
end Go.Proofs.S97
namespace Go.Proofs.S97
open Go Go.Ev Go.Proofs Go.Proofs.S97.Q
variable {gl :Gl} {n:Nat}
abbrev A0 :List A3:=[⟨1,1,0⟩,⟨2,1,0⟩]
abbrev L0 :List Int:=List.replicate (4*16) 0
abbrev E0 :Sf:=newS 10 A0 16 100 0 L0
abbrev Oa :Ob:=⟨[97],1,8,5⟩
abbrev Ob' :Ob:=⟨[98],1,2,3⟩
abbrev Oc :Ob:=⟨[99],2,4,0⟩
abbrev Od :Ob:=⟨[100],1,11,0⟩
theorem va_2 {u v:Int}(hu:0<=u/\u<=1099511627776)(hv:0<=v/\v<=1099511627776):VA [⟨1,1,u⟩,⟨2,1,v⟩]:=by
 refine⟨by simp,fun i hi=> ?_⟩
 match i,hi with
 | 0,_=>exact⟨show(0:Int)<1 by omega,⟨show(1:Int)<=1 by omega,show(1:Int)<=1048576 by omega⟩,hu⟩
 | 1,_=>exact⟨show(1:Int)<2 by omega,⟨show(1:Int)<=1 by omega,show(1:Int)<=1048576 by omega⟩,hv⟩
theorem vk_0 :K.VS 16 100 0 L0:=by
 refine⟨⟨4,by omega,by decide⟩,by omega,by omega,by omega,by simp,fun i hi=> ?_⟩
 have:K.nat L0 i=0:=K.nat_rep (by simpa using hi) 0
 rw[K.CO,this];omega
theorem qkj :NOk 10 A0 16 100 0 L0:=⟨by omega,va_2 (by omega) (by omega),fun i hi=>by
 match i,hi with
 | 0,_=>rfl
 | 1,_=>rfl,vk_0⟩
theorem z98 :VSf E0:=by
 refine⟨by show(0:Int)<=10/\(10:Int)<=_;omega,va_2 (by omega) (by omega),vk_0,by show([]:List Ob).length<=4096;simp,fun i hi=> ?_,fun k hk=> ?_,by show sumU A0 2<=10;decide⟩
 . have:i<([]:List Ob).length:=hi
   simp at this
 . match k,hk with
   | 0,_=>rfl
   | 1,_=>rfl
theorem tn_2 {u v:Int}:Tn [⟨1,1,u⟩,⟨2,1,v⟩]:=fun i hi=>by
 match i,hi with
 | 0,_=>show(1:Int)<=_;omega
 | 1,_=>show(2:Int)<=_;omega
theorem qih (S:Sf)(hw:S.w=16)(hL:S.L=L0)(x:List UInt8):cnt S x=0:=by
 unfold cnt
 rw[hL,hw]
 exact K.lea_zero (w:=16) (key:=x) (by omega)
theorem z9k {S:Sf}{h:Ob}{m:Int}(hv:VS (wnt S.A (idxT S.A h.tn) h.sz))(hc:0<=S.c/\S.c<=1099511627776)(hm:Lv (wnt S.A (idxT S.A h.tn) h.sz) S.c m):fgs S h=gets (wnt S.A (idxT S.A h.tn) h.sz) m S.c S.A.length:=by
 rw[fgs,z1e hv (z84 hv hc) hm]
abbrev E1 :Sf:=⟨10,[⟨1,1,8⟩,⟨2,1,0⟩],[Oa],16,100,0,L0⟩
abbrev E2 :Sf:=⟨10,[⟨1,1,10⟩,⟨2,1,0⟩],[Oa,Ob'],16,100,0,L0⟩
abbrev E3 :Sf:=⟨10,[⟨1,1,0⟩,⟨2,1,4⟩],[Oc],16,100,0,L0⟩
theorem lv_2 :Lv (wnt E2.A (idxT E2.A Oc.tn) Oc.sz) E2.c 6:=⟨by omega,by omega,by decide,.inr (by decide)⟩
theorem lv_1 :Lv (wnt E1.A (idxT E1.A Oc.tn) Oc.sz) E1.c 6:=⟨by omega,by omega,by decide,.inr (by decide)⟩
theorem qi9 :vtn E2 Oc=1:=by
 have hv:VS (wnt E2.A (idxT E2.A Oc.tn) Oc.sz):=zih (va_2 (by omega) (by omega)) (show(0:Int)<=4/\(4:Int)<=_ by omega)
 have e:=z9k hv (show(0:Int)<=10/\(10:Int)<=_ by omega) lv_2
 have ho:¬own E2 Oc:=by
  unfold own
  rw[e];decide
 rw[vtn,if_neg ho,e]
 decide
theorem qja :vtn E1 Oc=1:=by
 have hv:VS (wnt E1.A (idxT E1.A Oc.tn) Oc.sz):=zih (va_2 (by omega) (by omega)) (show(0:Int)<=4/\(4:Int)<=_ by omega)
 have e:=z9k hv (show(0:Int)<=10/\(10:Int)<=_ by omega) lv_1
 have ho:¬own E1 Oc:=by
  unfold own
  rw[e];decide
 rw[vtn,if_neg ho,e]
 decide
theorem qkq :les E2 Ob' Oa<0:=by
 unfold les
 rw[qih E2 rfl rfl,qih E2 rfl rfl]
 decide
theorem z95 :wls (v0 E2) Oc=[Oa,Ob']:=by
 show wl [Oa,Ob'] (vtn E2 Oc) 2=_
 rw[qi9];rfl
theorem qkm :(mls (v0 E2) Oc).1=1:=by
 rw[mls,z95]
 show(mst E2 [Oa,Ob'] ([],0) 1).1=1
 have h:les E2 (oat [Oa,Ob'] (0+1)) (oat [Oa,Ob'] (mst E2 [Oa,Ob'] ([],0) 0).1)<0:=qkq
 rw[show(1:Nat)=0+1 from rfl,qca h]
theorem qg5 :jls (v0 E2) Oc=1:=by
 rw[jls,qkm,z95];rfl
theorem z93 :xls (v0 E2) Oc=Ob':=by rw[xls,qg5];rfl
theorem qkw :kls (v0 E2) Oc=0:=by rw[kls,z93];rfl
theorem qkg :(nxt Oc (v0 E2)).S=E1/\(nxt Oc (v0 E2)).o=[Ob']/\(nxt Oc (v0 E2)).w=true:=by
 refine⟨?_,?_,?_⟩
 . show drp E2 (jls (v0 E2) Oc) (kls (v0 E2) Oc)=E1
   rw[qg5,qkw];rfl
 . show []++[xls (v0 E2) Oc]=[Ob']
   rw[z93];rfl
 . show(true&&(!decide ((xls (v0 E2) Oc).tn=Oc.tn)||_))=true
   rw[z93];rfl
theorem qkh {v:Vt}(hS:v.S=E1)(ho:v.o=[Ob'])(hw:v.w=true):(nxt Oc v).S=E0/\(nxt Oc v).o=[Ob',Oa]/\(nxt Oc v).w=true/\wls v Oc≠[]:=by
 have w1:wls v Oc=[Oa]:=by
  rw[wls,hS,qja];rfl
 have m1:(mls v Oc).1=0:=by rw[mls,w1];rfl
 have j1:jls v Oc=0:=by rw[jls,m1,w1,hS];rfl
 have x1:xls v Oc=Oa:=by rw[xls,j1,hS];rfl
 have k1:kls v Oc=0:=by rw[kls,x1,hS];rfl
 refine⟨?_,?_,?_,by rw[w1];simp⟩
 . show drp v.S (jls v Oc) (kls v Oc)=E0
   rw[j1,k1,hS];rfl
 . show v.o++[xls v Oc]=_
   rw[x1,ho];rfl
 . show(v.w&&(!decide ((xls v Oc).tn=Oc.tn)||_))=true
   rw[x1,hw];rfl
theorem qjh :(runV Oc 2 (v0 E2)).S=E0/\(runV Oc 2 (v0 E2)).o=[Ob',Oa]/\(runV Oc 2 (v0 E2)).w=true/\(runV Oc 2 (v0 E2)).b=true:=by
 obtain⟨a1,a2,a3⟩:=qkg
 obtain⟨b1,b2,b3,b4⟩:=qkh a1 a2 a3
 have g2:goV Oc (v0 E2)=true:=by
  unfold goV
  rw[Bool.and_eq_true,decide_eq_true_eq,decide_eq_true_eq,z95]
  exact⟨show(10:Int)<sumU E2.A 2+4 by decide,by simp⟩
 have g1:goV Oc (nxt Oc (v0 E2))=true:=by
  unfold goV
  rw[Bool.and_eq_true,decide_eq_true_eq,decide_eq_true_eq,a1]
  exact⟨show(10:Int)<sumU E1.A 2+4 by decide,b4⟩
 rw[zs1 g2,zs1 g1]
 exact⟨b1,b2,b3,rfl⟩
end Go.Proofs.S97
namespace Go.Proofs.S97
open Go Go.Ev Go.Proofs Go.Proofs.S97.Q
variable {gl :Gl} {n:Nat}
theorem qf6 {l:List Ob}{x:List UInt8}(h:∀j,j<l.length->Bl.lt (oat l j).nm x=true):Pn l x l.length:=⟨wB _,h,fun j h1 h2=>by omega⟩
theorem z0w {S:Sf}{x:List UInt8}(h:∀j,j<S.H.length->Bl.lt (oat S.H j).nm x=true):¬hasN S x:=fun⟨j,hj,e⟩=>Bl.ne (h j hj) e
theorem rok {o:Ob}(h1:1<=o.nm.length/\o.nm.length<=4096)(h2:1<=o.sz/\o.sz<=1099511627776)(h3:0<=o.la/\o.la<=1099511627776):ROk o:=⟨h1,h2,h3⟩
section
variable [Nonempty (H.GlK gl)]
theorem ex_a (hn:16<=n):call gl tab n 8 [sfV E0 (qq true false .sc),oV Oa] []=some (.tup [sfV E1 (qq false false sO),.lst false .sc [],i64 0],[],[])/\VSf E1:=by
 have hr:ROk Oa:=rok (by decide) (by decide) (by decide)
 have hnn:¬hasN E0 Oa.nm:=z0w fun j hj=>by have:j<([]:List Ob).length:=hj;simp at this
 have ha:hasT E0 Oa.tn:=⟨0,by decide,rfl⟩
 obtain⟨k,hp,c⟩:=@zsi gl n _ hn E0 Oa true false .sc z98 tn_2 (fun j hj=>by have:j<([]:List Ob).length:=hj;simp at this) (.inl rfl) hr (by decide) ha hnn (by decide) (by decide)
 have hk:k=0:=by have:k<=0:=hp.le;omega
 subst hk
 have e:adm E0 Oa 0 (idxT E0.A Oa.tn)=E1:=rfl
 have v:=(z4g z98 tn_2 hr ha hnn (by decide) (by decide) hp).1
 rw[e]at c v
 exact⟨c,v⟩
theorem qgf {o:Ob}{x:List UInt8}(h:Bl.lt o.nm x=true):∀j,j<[o].length->Bl.lt (oat [o] j).nm x=true:=fun j hj=>by
 match j,hj with
 | 0,_=>exact h
theorem zzg {o p:Ob}{x:List UInt8}(h:Bl.lt o.nm x=true)(h':Bl.lt p.nm x=true):∀j,j<[o,p].length->Bl.lt (oat [o,p] j).nm x=true:=fun j hj=>by
 match j,hj with
 | 0,_=>exact h
 | 1,_=>exact h'
theorem ex_b (hn:16<=n):call gl tab n 8 [sfV E1 (qq false false sO),oV Ob'] []=some (.tup [sfV E2 (qq false false sO),.lst false .sc [],i64 0],[],[])/\VSf E2:=by
 have hv1:=(@ex_a gl 16 _ (wB _)).2
 have hr:ROk Ob':=rok (by decide) (by decide) (by decide)
 have hlt:=qgf (o:=Oa) (x:=Ob'.nm) (by decide)
 have hnn:¬hasN E1 Ob'.nm:=z0w hlt
 have ha:hasT E1 Ob'.tn:=⟨0,by decide,rfl⟩
 obtain⟨k,hp,c⟩:=@zsi gl n _ hn E1 Ob' false false sO hv1 tn_2 (fun j hj=>by
  match j,hj with
  | 0,_=>decide) (.inr rfl) hr (by decide) ha hnn (by decide) (by decide)
 have hk:k=1:=qbv hp (qf6 hlt)
 subst hk
 have e:adm E1 Ob' 1 (idxT E1.A Ob'.tn)=E2:=rfl
 have v:=(z4g hv1 tn_2 hr ha hnn (by decide) (by decide) hp).1
 rw[e]at c v
 exact⟨c,v⟩
theorem ex_c (hn:16<=n):call gl tab n 8 [sfV E2 (qq false false sO),oV Oc] []=some (.tup [sfV E3 (qq false false sO),.lst false .sc [.str [98],.str [97]],i64 0],[],[]):=by
 have hv2:=(@ex_b gl 16 _ (wB _)).2
 have hr:ROk Oc:=rok (by decide) (by decide) (by decide)
 have hlt:=zzg (o:=Oa) (p:=Ob') (x:=Oc.nm) (by decide) (by decide)
 have hnn:¬hasN E2 Oc.nm:=z0w hlt
 have ha:hasT E2 Oc.tn:=⟨1,by decide,rfl⟩
 obtain⟨v,hiv,hg,hF,hb0,hvc,hcl⟩:=@z8p gl (n-1) _ (by omega) E2 Oc false false sO (iv_0 hv2 tn_2 (fun j hj=>by
  match j,hj with
  | 0,_=>decide
  | 1,_=>decide) ha) (.inr rfl) hr (by decide) hnn (by decide) (by decide)
 obtain⟨r1,r2,r3,r4⟩:=qjh
 rw[show(2:Nat)=E2.H.length from rfl,<-hF]at r1 r2 r3 r4
 have he:vEnd Oc v=0:=by
  rw[vEnd,if_neg,if_pos r3]
  rw[r1];decide
 obtain⟨k,hp,c⟩:=zwl hn hv2 (.inr rfl) hr hiv hb0 hcl he
 rw[r1]at hp
 have hk:k=0:=by have:k<=0:=hp.le;omega
 subst hk
 rw[r1,r2]at c
 exact c
theorem ex_d (hn:16<=n):call gl tab n 8 [sfV E2 (qq false false sO),oV Od] []=some (.tup [sfV E2 (qq false false sO),.lst true .sc [],i64 2],[],[]):=by
 have hv2:=(@ex_b gl 16 _ (wB _)).2
 have hr:ROk Od:=rok (by decide) (by decide) (by decide)
 have hlt:=zzg (o:=Oa) (p:=Ob') (x:=Od.nm) (by decide) (by decide)
 exact z8m hn hv2 (.inr rfl) (.inr (.inr (.inr ⟨hr,⟨0,by decide,rfl⟩,z0w hlt,.inl (by decide),rfl⟩)))
theorem ex_z (hn:16<=n):call gl tab n 14 [sfV E2 (qq false false sO),.str [122]] []=some (.tup [sfV E2 (qq false false sO),i64 5],[],[]):=by
 have hv2:=(@ex_b gl 16 _ (wB _)).2
 have hlt:=zzg (o:=Oa) (p:=Ob') (x:=[122]) (by decide) (by decide)
 exact zqt hn hv2 (.inr rfl) (z0w hlt)
abbrev Wv (u v:Int)(fh:Bool)(mh:Sh)(H lz:List AV):AV:=.agg [i64 10,.lst false sA [.agg [i64 1,i64 1,i64 u],.agg [i64 2,i64 1,i64 v]],.lst fh mh H,.agg [i64 16,i64 100,i64 0,.lst false .sc lz]]
theorem zz6 (hn:17<=n):call gl tab n 6 [] []=some (.bool true,[],[]):=by
 obtain⟨d,rfl⟩:=wC hn
 obtain⟨bp,hbp,cp⟩:=@K.rpower_at gl (d+15) (by omega) 16
 rw[hbp.2 ⟨4,by omega,by decide⟩]at cp
 have c1:call gl tab (d+16) 19 [i64 16,i64 100] []=some (.agg [.agg [i64 16,i64 100,i64 0,.lst false .sc (K.ns L0)],i64 0],[],[]):=@K.rnew_ok gl (d+16) (by omega) 16 100 (by omega) (by omega) cp
 have c2:∀f f',call gl tab (d+16) 18 [i64 10,.lst f sA [.agg [i64 1,i64 1,i64 0],.agg [i64 2,i64 1,i64 0]],.agg [i64 16,i64 100,i64 0,.lst f' .sc (K.ns L0)]] []=some (.tup [Wv 0 0 true .sc [] (K.ns L0),i64 0],[],[]):=fun f f'=>@qgq gl (d+16) (by omega) f f' 10 A0 16 100 0 L0 (by decide) (by omega) qkj
 obtain⟨bv,hbv,c3'⟩:=@valid_at gl (d+16) (by omega) E0 (qq true false .sc) ⟨.inr rfl,.inl rfl⟩ (by decide) (by decide) (by decide) (by decide)
 rw[hbv.2 z98]at c3'
 have c3:call gl tab (d+16) 20 [Wv 0 0 true .sc [] (K.ns L0)] []=some (.bool true,[],[]):=c3'
 have c4:call gl tab (d+16) 8 [Wv 0 0 true .sc [] (K.ns L0),oV Oa] []=some (.tup [Wv 8 0 false sO [oV Oa] (K.ns L0),.lst false .sc [],i64 0],[],[]):=(@ex_a gl (d+16) _ (by omega)).1
 have c5:call gl tab (d+16) 8 [Wv 8 0 false sO [oV Oa] (K.ns L0),oV Ob'] []=some (.tup [Wv 10 0 false sO [oV Oa,oV Ob'] (K.ns L0),.lst false .sc [],i64 0],[],[]):=(@ex_b gl (d+16) _ (by omega)).1
 have c6:call gl tab (d+16) 8 [Wv 10 0 false sO [oV Oa,oV Ob'] (K.ns L0),oV Oc] []=some (.tup [Wv 0 4 false sO [oV Oc] (K.ns L0),.lst false .sc [.str [98],.str [97]],i64 0],[],[]):=@ex_c gl (d+16) _ (by omega)
 have c7:call gl tab (d+16) 8 [Wv 10 0 false sO [oV Oa,oV Ob'] (K.ns L0),oV Od] []=some (.tup [Wv 10 0 false sO [oV Oa,oV Ob'] (K.ns L0),.lst true .sc [],i64 2],[],[]):=@ex_d gl (d+16) _ (by omega)
 have c8:call gl tab (d+16) 14 [Wv 10 0 false sO [oV Oa,oV Ob'] (K.ns L0),.str [122]] []=some (.tup [Wv 10 0 false sO [oV Oa,oV Ob'] (K.ns L0),i64 5],[],[]):=@ex_z gl (d+16) _ (by omega)
 clear cp hbp c3' hbv
 generalize K.ns L0=lz at *
 rw[zaf (fd:=fd6) rfl]
 simp(disch:=apply zq;omega) only[go_sem,simprocAttr,↓Nat.reduceEqDiff,xx,fd6,m6,c1,c2,c3,c4,c5,c6,c7,c8]
end
end Go.Proofs.S97
namespace Go.Proofs.S97
open Go Go.Ev Go.Proofs Go.Proofs.S97.Q
variable {gl :Gl} {n:Nat}
abbrev kI :Kd:=.int .i64
abbrev kAc :Kd:=.st [.int .i64,.int .i64,.int .i64]
abbrev kO :Kd:=.st [.str,.int .i64,.int .i64,.int .i64]
abbrev kK :Kd:=.st [.int .i64,.int .i64,.int .i64,.sl (.int .i64)]
abbrev kF :Kd:=.st [.int .i64,.sl kAc,.sl kO,kK]
theorem kdA :∀{l:List AV},(∀x∈l,HasKd kAc x)->∃r:List A3,l=ac r/\Tn r
 | [],_=>⟨[],rfl,fun i hi=>by simp at hi⟩
 | x::l,h=>by
   obtain⟨k,rfl,hx⟩:=h x (by simp)
   simp only[HasKds]at hx
   obtain⟨_,_,rfl,⟨a,rfl,ha⟩,_,_,rfl,⟨b,rfl,_⟩,_,_,rfl,⟨c,rfl,_⟩,rfl⟩:=hx
   obtain⟨r,rfl,hr⟩:=kdA (l:=l) fun y hy=>h y (by simp[hy])
   refine⟨⟨a,b,c⟩::r,rfl,fun i hi=> ?_⟩
   cases i with
   | zero=>exact ha.2
   | succ i=>exact hr i (by simpa using hi)
theorem kdO :∀{l:List AV},(∀x∈l,HasKd kO x)->∃r:List Ob,l=hs r
 | [],_=>⟨[],rfl⟩
 | x::l,h=>by
   obtain⟨k,rfl,hx⟩:=h x (by simp)
   simp only[HasKds]at hx
   obtain⟨_,_,rfl,⟨a,rfl,_⟩,_,_,rfl,⟨b,rfl,_⟩,_,_,rfl,⟨c,rfl,_⟩,_,_,rfl,⟨e,rfl,_⟩,rfl⟩:=hx
   obtain⟨r,rfl⟩:=kdO (l:=l) fun y hy=>h y (by simp[hy])
   exact⟨⟨a,b,c,e⟩::r,rfl⟩
theorem kdN :∀{l:List AV},(∀x∈l,HasKd kI x)->∃r:List Int,l=K.ns r
 | [],_=>⟨[],rfl⟩
 | x::l,h=>by
   obtain⟨a,rfl,_⟩:=h x (by simp)
   obtain⟨r,rfl⟩:=kdN (l:=l) fun y hy=>h y (by simp[hy])
   exact⟨a::r,rfl⟩
structure ArS (S:Sf):Prop where
 t:Tn S.A
 w:S.w<=9223372036854775807
 a:S.A.length<=9223372036854775807
 h:S.H.length<=9223372036854775807
 l:S.L.length<=9223372036854775807
theorem kdK {x:AV}(h:HasKd kK x):∃w s a:Int,∃L:List Int,x= .agg [i64 w,i64 s,i64 a,.lst false .sc (K.ns L)]/\w<=9223372036854775807/\L.length<=9223372036854775807:=by
 obtain⟨k,rfl,hx⟩:=h
 simp only[HasKds]at hx
 obtain⟨_,_,rfl,⟨w,rfl,hw⟩,_,_,rfl,⟨s,rfl,_⟩,_,_,rfl,⟨a,rfl,_⟩,_,_,rfl,⟨d,rfl,hd,hl⟩,rfl⟩:=hx
 obtain⟨L,rfl⟩:=kdN hl
 refine⟨w,s,a,L,rfl,hw.2,?_⟩
 have:=hd
 simp[Go.maxLen,K.ns_length]at this
 omega
theorem kdF {x:AV}(h:HasKd kF x):∃S:Sf,x=sfV S (qq false false sO)/\ArS S:=by
 obtain⟨k,rfl,hx⟩:=h
 simp only[HasKds]at hx
 obtain⟨_,_,rfl,⟨c,rfl,_⟩,_,_,rfl,⟨d1,rfl,hd1,h1⟩,_,_,rfl,⟨d2,rfl,hd2,h2⟩,_,_,rfl,h3,rfl⟩:=hx
 obtain⟨A,rfl,hA⟩:=kdA h1
 obtain⟨H,rfl⟩:=kdO h2
 obtain⟨w,s,a,L,rfl,hw,hL⟩:=kdK h3
 refine⟨⟨c,A,H,w,s,a,L⟩,rfl,hA,hw,?_,?_,hL⟩
 . have:=hd1;simp[Go.maxLen,zad]at this;show A.length<=_;omega
 . have:=hd2;simp[Go.maxLen,zaa]at this;show H.length<=_;omega
theorem qde (h:1<=n)(S:Sf)(q:Fl)(hS:ArS S) :
  ∃b:Bool,(b=true↔S.A.length<=8/\S.H.length<=30/\S.L.length<=300)/\call gl tab n 17 [sfV S q] []=some (.bool b,[],[]):=by
 obtain⟨d,rfl⟩:=wC h
 have ha:=hS.a
 have hh:=hS.h
 have hL:=hS.l
 rw[zaf (fd:=fd17) rfl]
 by_cases h1:S.A.length<=8
 case neg=>exact⟨false,⟨(fun h=>by cases h),fun h=>absurd h.1 h1⟩,by simp(disch:=apply zq;omega) only[go_sem,simprocAttr,↓Nat.reduceEqDiff,xx,fd17,m17,zad,zaa,K.ns_length]⟩
 by_cases h2:S.H.length<=30
 case neg=>exact⟨false,⟨(fun h=>by cases h),fun h=>absurd h.2.1 h2⟩,by simp(disch:=apply zq;omega) only[go_sem,simprocAttr,↓Nat.reduceEqDiff,xx,fd17,m17,zad,zaa,K.ns_length]⟩
 by_cases h3:S.L.length<=300
 case neg=>exact⟨false,⟨(fun h=>by cases h),fun h=>absurd h.2.2 h3⟩,by simp(disch:=apply zq;omega) only[go_sem,simprocAttr,↓Nat.reduceEqDiff,xx,fd17,m17,zad,zaa,K.ns_length]⟩
 exact⟨true,⟨fun _=>⟨h1,h2,h3⟩,fun _=>rfl⟩,by simp(disch:=apply zq;omega) only[go_sem,simprocAttr,↓Nat.reduceEqDiff,xx,fd17,m17,zad,zaa,K.ns_length]⟩
end Go.Proofs.S97
