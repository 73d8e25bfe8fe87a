/-
  Chapter 39: looking rows up. No condition.
-/
import Derived.Test.YtaloneiaejhopaaGreatDoorW51G0x3
set_option linter.all false
open BitVec renaming toNat_ushiftRight->wB,toNat_ofNat->wC
open Nat renaming reduceEqDiff->wD,exists_eq_add_of_le'->wE,le_refl->wF,not_lt_zero->wG,shiftRight_eq_div_pow->wH,mod_eq_of_lt->wJ,not_lt->wK
open List renaming getD_eq_getElem?_getD->wM,getElem?_eq_getElem->wN,length_take->wO,mem_of_mem_take->wP,mem_of_mem_drop->wQ,getElem_of_mem->wR,map_nil->wS,mem_cons->wT,take_append_drop->wU,getElem?_set->wW,take_length->wX,length_drop->wY,mem_append->wZ,map_take->w0,map_drop->w1
namespace Go.Proofs.S51.C
open Go Go.Ev Go.Proofs
variable {gl :Gl} {n:Nat}
theorem lG {x y:Q4}:x.cmp y<0↔x.w<y.w\/(x.w=y.w/\x.g<y.g):=by unfold Q4.cmp cmpI;split<;>split<;>(try split)<;>omega
theorem yX {x y:Q4}:x.cmp y=0↔x.w=y.w/\x.g=y.g:=by unfold Q4.cmp cmpI;split<;>split<;>(try split)<;>omega
theorem I2 (i j:Nat)(h:i+j<2^62):((BitVec.ofInt 64 ((i:Int)+(j:Int)))>>>(1:Nat)).toInt=(((i+j)/2:Nat):Int):=by
 have e:BitVec.ofInt 64 ((i:Int)+(j:Int))=BitVec.ofNat 64 (i+j):=by rw[show((i:Int)+(j:Int))=((i+j:Nat):Int) by omega,BitVec.ofInt_natCast]
 rw[e,BitVec.toInt_eq_toNat_of_lt]
 . rw[wB,wC,wJ (by omega),wH]
 . rw[wB,wC,wJ (by omega),wH];omega
def Asc (l:List Q4):Prop:=∀i,i+1<l.length->(at' l i).cmp (at' l (i+1))<0
theorem zf {l:List Q4}(h:Asc l){i:Nat}:∀{j:Nat},i<j->j<l.length->(at' l i).cmp (at' l j)<0
 | 0,hij,_=>absurd hij (wG _)
 | j+1,hij,hj=>by
   have h1:=h j hj;by_cases hd:i=j
   . subst hd;exact h1
   . have h2:=zf h (show i<j by omega) (by omega);rw[lG]at *;omega
theorem xz {c len:Int}{l:List Q4}(h:VB c len l):Asc l:=fun i hi=>(h.ok (i+1) hi).o (Nat.succ_pos _)
def S68 (f:Bool)(sh:Sh)(l:List Q4)(x:Q4)(a:Nat×Nat):St :=
 ⟨[.set 10 (i64 a.2),.set 9 (i64 a.1),.set 8 (i64 l.length),.set 4 (.ptr 4 []),.set 2 (.fn 50 []),.set 0 (.lst f sh (rows l))],[(4,.fix sR x.av)]⟩
noncomputable def L68:MC:=wq 0 m76
structure Lb (l:List Q4)(x:Q4)(k:Nat):Prop where
 le:k<=l.length
 lo:∀t,t<k->(at' l t).cmp x<0
 hi:∀t,k<=t->t<l.length->0<=(at' l t).cmp x
theorem Eh {l:List Q4}{x:Q4}{k k':Nat}(h:Lb l x k)(h':Lb l x k'):k=k':=by
 have h1:=h.le;have h2:=h'.le;by_cases hlt:k<k'
 . have a1:=h'.lo k hlt;have a2:=h.hi k (wF _) (by omega);omega
 by_cases hgt:k'<k
 . have a1:=h.lo k' hgt;have a2:=h'.hi k' (wF _) (by omega);omega
 omega
theorem loop68 (h:3<=n){f:Bool}{sh:Sh}{l:List Q4}{x:Q4}(hs:Shp l sh)(hl:l.length<2^60){i j:Nat}(hij:i<j)(hj:j<=l.length)(hc:(at' l ((i+j)/2)).cmp x<0) :
  aK [.slot 0,.slot 2,.slot 4,.slot 8,.slot 9,.slot 10,.key 4] (evC gl (call gl tab n) L68 (S68 f sh l x (i,j)))=some (S68 f sh l x ((i+j)/2+1,j)):=by
 have c47:=@jr gl n (by omega);have hm:=I2 i j (by omega);have h2:(i+j)/2<l.length:=by omega
 have hx:=gi h2;obtain rfl:=hs.eq h2;simp only[Q4.av]at c47;generalize (i+j)/2=m at *
 simp(disch:=apply zq;omega) only[go_sem,simprocAttr,↓wD,xx,L68,S68,hm,hx,aI,Q4.av,c47]
theorem NC (h:3<=n){f:Bool}{sh:Sh}{l:List Q4}{x:Q4}(hs:Shp l sh)(hl:l.length<2^60){i j:Nat}(hij:i<j)(hj:j<=l.length)(hc:0<=(at' l ((i+j)/2)).cmp x) :
  aK [.slot 0,.slot 2,.slot 4,.slot 8,.slot 9,.slot 10,.key 4] (evC gl (call gl tab n) L68 (S68 f sh l x (i,j)))=some (S68 f sh l x (i,(i+j)/2)):=by
 have c47:=@jr gl n (by omega);have hm:=I2 i j (by omega);have h2:(i+j)/2<l.length:=by omega
 have hx:=gi h2;obtain rfl:=hs.eq h2;simp only[Q4.av]at c47;generalize (i+j)/2=m at *
 simp(disch:=apply zq;omega) only[go_sem,simprocAttr,↓wD,xx,L68,S68,hm,hx,aI,Q4.av,c47]
theorem vu (h:4<=n)(f:Bool){sh:Sh}{l:List Q4}(hs:Shp l sh)(x:Q4)(hl:l.length<2^60)(ha:Asc l) :
  ∃k,Lb l x k/\call gl tab n 76 [.lst f sh (rows l),x.av,.fn 50 []] []=some (.tup [i64 k,.bool (decide (k<l.length/\(at' l k).cmp x=0))],[],[]):=by
 obtain⟨d,rfl⟩:=wE h;have c47:=@jr gl (d+3) (by omega);obtain⟨⟨k,k'⟩,⟨i1,i2,i3,i4⟩,hgo,hit⟩:=l4 (f:=evC gl (call gl tab (d+3)) L68) (ks:=[.slot 0,.slot 2,.slot 4,.slot 8,.slot 9,.slot 10,.key 4]) (S68 f sh l x)
  (fun a=>a.1<=a.2/\a.2<=l.length/\(∀t,t<a.1->(at' l t).cmp x<0)/\∀t,a.2<=t->t<l.length->0<=(at' l t).cmp x) (fun a=>a.2-a.1)
  (fun a=>if(at' l ((a.1+a.2)/2)).cmp x<0 then((a.1+a.2)/2+1,a.2)else(a.1,(a.1+a.2)/2)) (fun a=>decide (a.1<a.2)) (a0:=(0,l.length)) (by unfold LF;simp;omega)
  ⟨Nat.zero_le _,wF _,fun t ht=>absurd ht (wG _),fun t h1 h2=>absurd h2 (by simp at h1;omega)⟩
  (fun a ⟨h1,h2,h3,h4⟩ hg=>by
    obtain⟨i,j⟩:=a;simp only[decide_eq_true_eq]at hg h1 h2 h3 h4 ⊢;by_cases hc:(at' l ((i+j)/2)).cmp x<0
    . simp only[hc,if_true];refine⟨loop68 (by omega) hs hl hg h2 hc,⟨by omega,h2,fun t ht=> ?_,h4⟩,by omega⟩;by_cases ht':t=(i+j)/2
      . subst ht';exact hc
      . have h5:=zf ha (show t<(i+j)/2 by omega) (by omega);rw[lG]at *;omega
    . simp only[hc,if_false];refine⟨NC (by omega) hs hl hg h2 (by omega),⟨by omega,by omega,h3,fun t ht ht2=> ?_⟩,by omega⟩;by_cases ht':t=(i+j)/2
      . subst ht';omega
      . have h5:=zf ha (show(i+j)/2<t by omega) ht2;have h6:¬(at' l ((i+j)/2)).cmp x<0:=hc;refine Int.not_lt.1 fun h7=>h6 ?_
        rw[lG]at *;omega)
  (fun a ⟨h1,h2,h3,h4⟩ hg=>by
    obtain⟨i,j⟩:=a;simp only[decide_eq_false_iff_not,wK]at hg h1 h2;simp(disch:=apply zq;omega) only[go_sem,simprocAttr,↓wD,xx,L68,S68,aI])
 simp only[decide_eq_false_iff_not,wK]at hgo i1 i2 i3 i4;obtain rfl:k=k':=by omega
 refine⟨k,⟨i2,i3,i4⟩,?_⟩;simp only[L68,wq]at hit;rw[au (fd:=S2) rfl];simp(disch:=apply zq;omega) only[go_sem,simprocAttr,↓wD,xx,S2,m76,aI,Q4.av];rw[hit _ (by simp(disch:=apply zq;omega) only[go_sem,simprocAttr,↓wD,xx,S68,Q4.av])];by_cases hk:k<l.length
 . have hx:=gi hk;obtain rfl:=hs.eq hk;simp only[Q4.av]at c47;by_cases he:(at' l k).cmp x=0
   . simp(disch:=apply zq;omega) only[go_sem,simprocAttr,↓wD,xx,S68,Q4.av,hx,c47,aI,he]
   . have he2:((at' l k).cmp x==0)=false:=by simpa using he
     simp(disch:=apply zq;omega) only[go_sem,simprocAttr,↓wD,xx,S68,Q4.av,hx,c47,aI,he2,he,and_false]
 . simp(disch:=apply zq;omega) only[go_sem,simprocAttr,↓wD,xx,S68,aI,false_and]
theorem J1 (h:5<=n)(f:Bool){sh:Sh}{l:List Q4}(hs:Shp l sh)(x:Q4)(hl:l.length<2^60)(ha:Asc l){k:Nat}(hk:Lb l x k) :
  call gl tab n 49 [.lst f sh (rows l),x.av,.fn 50 []] []=some (.tup [if k<l.length/\(at' l k).cmp x=0 then(at' l k).av else x.av,.bool (decide (k<l.length/\(at' l k).cmp x=0))],[],[]):=by
 obtain⟨d,rfl⟩:=wE h;obtain⟨k',hk',c68⟩:=@vu gl (d+4) (by omega) f sh l hs x hl ha;obtain rfl:=Eh hk hk';rw[au (fd:=Oa) rfl];by_cases hf:k<l.length/\(at' l k).cmp x=0
 . have hx:=gi hf.1;obtain rfl:=hs.eq hf.1;have hkl:=hf.1;simp only[Q4.av,hf,and_self,decide_true]at c68;simp(disch:=apply zq;omega) only[go_sem,simprocAttr,↓wD,xx,Oa,m49,Q4.av,c68,hx,aI,hf]
 . simp only[Q4.av,hf,decide_false]at c68;simp(disch:=apply zq;omega) only[go_sem,simprocAttr,↓wD,xx,Oa,m49,Q4.av,c68,aI,hf]
def iD (l:List Q4)(k:Nat)(x:Q4):List Q4:=l.take k++x::l.drop (if k<l.length/\(at' l k).cmp x=0 then k+1 else k)
theorem E2 (l:List Q4)(k:Nat)(x:Q4):kZ (rows l) k x.av=rows (l.take k++x::l.drop k):=by simp[kZ,rows,w0,w1]
theorem HO (l:List Q4)(k:Nat)(x:Q4)(h:k<l.length):(rows l).set k x.av=rows (l.take k++x::l.drop (k+1)):=by rw[List.set_eq_take_append_cons_drop];simp[rows,w0,w1,h]
theorem Rp (h:5<=n)(f:Bool){sh:Sh}{l:List Q4}(hs:Shp l sh)(x:Q4)(hl:l.length<2^30)(ha:Asc l){k:Nat}(hk:Lb l x k) :
  call gl tab n 52 [.lst f sh (rows l),x.av,.fn 50 []] []=some (.sl 20000 [] 0 (iD l k x).length,[],[.grow sR (rows (iD l k x))]):=by
 obtain⟨d,rfl⟩:=wE h;obtain⟨k',hk',c68⟩:=@vu gl (d+4) (by omega) f sh l hs x (by omega) ha;obtain rfl:=Eh hk hk';have c51:∀f,call gl tab (d+4) 79 [.lst f sh (rows l)] []=some (.sl 20000 [] 0 l.length,[],[.grow sR (rows l)]):=fun f=>by
  rw[cX (fd:=S1) rfl rfl];have h1:l.length<=LIM:=by unfold LIM;omega
  have h2:(rows l).isEmpty=true\/Sh.beq sR sh=true:=hs.imp (fun h=>by simp[h,rows]) fun h=>by rw[h];rfl
  have h3:rows l=[]\/Sh.beq sR sh=true:=by simpa using h2
  simp[iY,aI,h1,h3]
 rw[au (fd:=N9) rfl];have hk1:=hk.le;by_cases hf:k<l.length/\(at' l k).cmp x=0
 . have hkl:=hf.1;have hx:=gi hkl;obtain rfl:=hs.eq hkl;simp only[Q4.av,hf,and_self,decide_true]at c68;have hs:=HO l k x hkl;simp only[Q4.av]at hs;have hp:(iD l k x).length=l.length:=by simp[iD,hf];omega
   have hp2:l.take k++x::l.drop (k+1)=iD l k x:=by simp[iD,hf]
   rw[hp2]at hs;rw[hp];simp(disch:=apply zq;omega) only[go_sem,simprocAttr,↓wD,xx,N9,m52,Q4.av,c68,c51,hx,aI,hs,hp]
 . simp only[Q4.av,hf,decide_false]at c68;have hp:(iD l k x).length=l.length+1:=by simp[iD,hf];omega
   have hi:=E2 l k x;have hp2:l.take k++x::l.drop k=iD l k x:=by simp[iD,hf]
   rw[hp2]at hi;simp only[Q4.av]at hi;have hlim:l.length+1<=LIM:=by unfold LIM;omega
   have c71:call gl tab (d+4) 80 [.sl 100000 [] 0 l.length,i64 k,.sl 100001 [] 0 1] [(100000,.grow sR (rows l)),(100001,.grow sR [.agg [i64 x.w,i64 x.g,i64 x.d,i64 x.b]])] =
     some (.sl 20000 [] 0 (l.length+1),[(100000,.dead),(100001,.grow sR [.agg [i64 x.w,i64 x.g,i64 x.d,i64 x.b]])],[.grow sR (rows (iD l k x))]):=by
    rw[cX (fd:=S0) rfl rfl];simp[l6,aI,Sh.beq,Sh.beqs,hlim,hk1,hi]
   rw[hp];simp(disch:=apply zq;omega) only[go_sem,simprocAttr,↓wD,xx,N9,m52,Q4.av,c68,c51,aI,c71,hp]
def mq (l:List Q4)(w:Int):Nat->Int
 | 0=>0
 | i+1=>if(at' l i).w=w then mq l w i+((at' l i).d-(at' l i).b)else mq l w i
theorem IN {l:List Q4}{w cap:Int}:∀i,(∀j,j<i->RowOk cap l j)->0<=mq l w i/\mq l w i<=(i:Int)*1099511627776
 | 0,_=>by simp[mq]
 | i+1,h=>by
   have h1:=IN (w:=w) i fun j hj=>h j (by omega)
   have h2:=h i (by omega);have h3:=h2.b;have h4:=h2.d;rw[mq];split<;>omega
theorem Ea {l:List Q4}{w c len:Int}(h:VB c len l){i:Nat}(hi:i<=l.length):0<=mq l w i/\mq l w i<=10000*1099511627776:=by
 have h1:=IN (w:=w) i fun j hj=>h.ok j (by omega)
 have h2:=h.r;omega
def S22 (f:Bool)(sh:Sh)(l:List Q4)(w:Int)(i:Nat):St :=
 ⟨[.set 14 (i64 i),.set 13 (i64 l.length),.set 12 (.lst f sh (rows l)),.set 5 (i64 (mq l w i)),.set 1 (i64 w)],[]⟩
theorem UY (h:6<=n)(c len:Int)(f:Bool){sh:Sh}{l:List Q4}(hs:Shp l sh)(w:Int)(hv:VB c len l):call gl tab n 51 [bank c len f sh l,i64 w] []=some (i64 (mq l w l.length),[],[]):=by
 obtain⟨d,rfl⟩:=wE h;have hr:=hv.r;obtain⟨b,hb,c17⟩:=@pd gl (d+5) (by omega) c len f sh l hs (by omega);obtain rfl:=hb.2 hv;simp only[bank]at c17;rw[au (fd:=Ti) rfl];simp only[Ti,m51,go_sem,simprocAttr,↓wD,bank,c17,aI];rw[aE (S22 f sh l w) l.length (by unfold LF;omega)]
 . simp(disch:=apply zq;omega) only[go_sem,simprocAttr,↓wD,xx,S22]
 . simp(disch:=apply zq;omega) only[go_sem,simprocAttr,↓wD,xx,S22,mq]
 . intro i hi;have hx:=gi hi;have hk:=hv.ok i hi;have h1:=hk.b;have h2:=hk.d;have hb:=Ea (w:=w) hv (Nat.le_of_lt hi);obtain rfl:=hs.eq hi;by_cases he:(at' l i).w=w
   . simp(disch:=apply zq;omega) only[go_sem,simprocAttr,↓wD,xx,S22,hx,aI,mq,he]
   . have he2:((at' l i).w==w)=false:=by simpa using he
     simp(disch:=apply zq;omega) only[go_sem,simprocAttr,↓wD,xx,S22,hx,aI,mq,he,he2]
 . simp(disch:=apply zq;omega) only[go_sem,simprocAttr,↓wD,xx,S22]
def fh (l:List Q4)(k:Nat)(x:Q4):Q4:=if k<l.length/\(at' l k).cmp x=0 then at' l k else x
def X9 (l:List Q4)(k:Nat)(x:Q4):Nat:=if k<l.length/\(at' l k).cmp x=0 then k+1 else k
def XQ (l:List Q4)(k:Nat)(x:Q4)(i:Nat):List Q4:=if i<=k then l.take i else l.take k++x::(l.take i).drop (X9 l k x)
theorem take_at {l:List Q4}{i:Nat}(h:i<l.length):l.take (i+1)=l.take i++[at' l i]:=by rw[List.take_succ_eq_append_getElem h,nz h]
section
variable {c len:Int} {f:Bool} {l:List Q4} {x:Q4} {k i:Nat} (hk:Lb l x k) (ha:Asc l) (hi:i<l.length) (h6:(XQ l k x i).length+1+1<=LIM) (hl:l.length<2^30)
include hk ha hi h6 hl
end
theorem rY (l:List Q4):List.take l.length (rows l)=rows l:=by rw[<-aI,wX]
def S19 (c len:Int)(f f':Bool)(sh sh':Sh)(l:List Q4)(i:Nat):St :=
 ⟨[.set 5 (i64 i),.set 3 (.ptr 3 []),.set 2 (.ptr 2 [])],[(3,.fix (.st [.sc,.sc,.sc]) (bank c len f' sh' l)),(2,.fix (.st [.sc,.sc,.sc]) (bank c len f sh l))]⟩
theorem xh {l:List Q4}(ha:Asc l)(x:Q4):∃k,Lb l x k:=by
 obtain⟨h1,h2,h3⟩:=oD (fun t=>(at' l t).cmp x<0) l.length;refine⟨lh (fun t=>(at' l t).cmp x<0) l.length,h1,h2,fun t ht htl=> ?_⟩;have h4:=h3 (by omega);by_cases he:t=lh (fun t=>(at' l t).cmp x<0) l.length
 . rw[he];omega
 . have h5:=zf ha (show lh (fun t=>(at' l t).cmp x<0) l.length<t by omega) htl;refine Int.not_lt.1 fun h6=>h4 ?_
   rw[lG]at *;omega
theorem R8 {l:List Q4}{x y:Q4}{k:Nat}(h:Lb l x k)(hw:y.w=x.w)(hg:y.g=x.g):Lb l y k:=by
 have e:∀z:Q4,z.cmp y=z.cmp x:=fun z=>by simp only[Q4.cmp,hw,hg]
 exact⟨h.le,fun t ht=>by rw[e];exact h.lo t ht,fun t h1 h2=>by rw[e];exact h.hi t h1 h2⟩
abbrev key (w g:Int):Q4:=⟨w,g,0,0⟩
theorem E3 (l:List Q4)(k:Nat)(w g:Int):(fh l k (key w g)).w=w/\(fh l k (key w g)).g=g:=by
 unfold fh;split
 . rename_i h;have:=yX.1 h.2;exact this
 . exact⟨rfl,rfl⟩
theorem HQ {c len:Int}{l:List Q4}(hv:VB c len l)(k:Nat)(w g:Int):0<=(fh l k (key w g)).d/\(fh l k (key w g)).d<=1099511627776/\0<=(fh l k (key w g)).b/\(fh l k (key w g)).b<=(fh l k (key w g)).d:=by
 unfold fh;split
 . rename_i h;have h1:=hv.ok k h.1;have:=h1.d;have:=h1.b;omega
 . simp
def Kn (l:List Q4)(k:Nat)(w g:Int):Prop:=k<l.length/\(at' l k).cmp (key w g)=0
instance (l :List Q4) (k:Nat) (w g:Int):Decidable (Kn l k w g):=inferInstanceAs (Decidable (_/\_))
theorem Qg (h:5<=n){c len:Int}{f:Bool}{sh:Sh}{l:List Q4}(hs:Shp l sh)(hv:VB c len l):call gl tab n 45 [bank c len f sh l] []=some (.bool true,[],[]):=by obtain⟨b,hb,c17⟩:=@pd gl n h c len f sh l hs (by have:=hv.r;omega);obtain rfl:=hb.2 hv;exact c17
theorem U4 (h:5<=n){c len:Int}{f:Bool}{sh:Sh}{l:List Q4}(hs:Shp l sh)(hl:l.length<2^30)(hv:¬VB c len l):call gl tab n 45 [bank c len f sh l] []=some (.bool false,[],[]):=by
 obtain⟨b,hb,c17⟩:=@pd gl n h c len f sh l hs (by omega);obtain rfl:b=false:=by cases b;rfl;exact absurd (hb.1 rfl) hv
 exact c17
theorem Ot (h:6<=n)(c len:Int)(f:Bool){sh:Sh}{l:List Q4}(hs:Shp l sh)(w g:Int)(hv:VB c len l){k:Nat}(hk:Lb l (key w g) k) :
  call gl tab n 19 [bank c len f sh l,i64 w,i64 g] []=some (i64 (fh l k (key w g)).d,[],[]):=by
 obtain⟨d,rfl⟩:=wE h;have hr:=hv.r;have c17:=@Qg gl (d+5) (by omega) c len f sh l hs hv;have c46:=@J1 gl (d+5) (by omega) f sh l hs (key w g) (by omega) (xz hv) k hk;have e:(if k<l.length/\(at' l k).cmp (key w g)=0 then(at' l k).av else(key w g).av)=(fh l k (key w g)).av:=by unfold fh;split<;>rfl
 rw[e]at c46;simp only[bank,Q4.av]at c17 c46;rw[au (fd:=TG) rfl];simp(disch:=apply zq;omega) only[go_sem,simprocAttr,↓wD,xx,TG,m19,bank,c17,c46]
theorem kW :∀l:List Q4,dN (rows l)=true
 | []=>rfl
 | x::l=>by have:=kW l;rw[rows]at this;simp[rows,dN,db,Q4.av,this]
abbrev Xa :AV:=bank 0 0 true .sc []
open Classical in
theorem newBank_at (h:6<=n)(c len:Int):call gl tab n 17 [i64 c,i64 len] []=some (.tup [if VB c len []then bank c len true .sc []else Xa,i64 (if VB c len []then 0 else 1)],[],[]):=by
 obtain⟨d,rfl⟩:=wE h;rw[au (fd:=Od) rfl];by_cases hv:VB c len []
 . have c17:=@Qg gl (d+5) (by omega) c len true .sc [] (.inl rfl) hv;simp only[bank,rows,wS]at c17;simp(disch:=apply zq;omega) only[go_sem,simprocAttr,↓wD,xx,Od,m17,bank,rows,wS,c17,hv]
 . have c17:=@U4 gl (d+5) (by omega) c len true .sc [] (.inl rfl) (by decide) hv;simp only[bank,rows,wS]at c17;simp(disch:=apply zq;omega) only[go_sem,simprocAttr,↓wD,xx,Od,m17,bank,rows,wS,c17,hv]
structure DArg (w g m:Int):Prop where
 w:0<=w/\w<=1099511627776
 g:1<=g/\g<=1073741824
 m:1<=m/\m<=1073741824
structure DRoom (c:Int)(l:List Q4)(k:Nat)(w g m:Int):Prop where
 o:mq l w l.length+m<=c
 d:(fh l k (key w g)).d+m<=1099511627776
 r:Kn l k w g\/l.length≠10000
def more (l:List Q4)(k:Nat)(w g m:Int):Q4:=⟨w,g,(fh l k (key w g)).d+m,(fh l k (key w g)).b⟩
section
variable {c len:Int} {f:Bool} {sh:Sh} {l:List Q4} {w g m:Int} {k:Nat} (hs:Shp l sh) (hl:l.length<2^30)
include hs hl
theorem Ou (h:7<=n)(hv:VB c len l)(ha:DArg w g m)(hk:Lb l (key w g) k)(hr:DRoom c l k w g m) :
  call gl tab n 18 [bank c len f sh l,i64 w,i64 g,i64 m] []=some (.tup [bank c len false sR (iD l k (more l k w g m)),i64 0],[],[]):=by
 obtain⟨d,rfl⟩:=wE h;have hr0:=hv.r;have hasc:=xz hv;have c17:=@Qg gl (d+6) (by omega) c len f sh l hs hv;have c43:=@isWindow_at gl (d+6) (by omega);have c44:=@pG gl (d+6) (by omega);have c45:=@within_at gl (d+6) (by omega);have c22:=@UY gl (d+6) (by omega) c len f sh l hs w hv;have c46:=@J1 gl (d+6) (by omega) f sh l hs (key w g) (by omega) hasc k hk;have c48:=@Rp gl (d+6) (by omega) f sh l hs (more l k w g m) (by omega) hasc k (R8 hk rfl rfl);have e:(if k<l.length/\(at' l k).cmp (key w g)=0 then(at' l k).av else(key w g).av)=(fh l k (key w g)).av:=by unfold fh;split<;>rfl
 obtain⟨e1,e2⟩:=E3 l k w g;have hbd:=HQ hv k w g;have hob:=Ea (w:=w) hv (wF _);obtain⟨⟨a1,a2⟩,⟨a3,a4⟩,⟨a5,a6⟩⟩:=ha;obtain⟨r1,r2,r3⟩:=hr;rw[e]at c46;simp only[bank,Q4.av,more,key,e1,e2]at c17 c46 c48 c22 hbd r2 ⊢;rw[au (fd:=Oc) rfl];by_cases hkn:Kn l k w g
 . have hkn2:(k<l.length/\(at' l k).cmp ⟨w,g,0,0⟩=0):=hkn;simp only[hkn2,and_self,decide_true]at c46;simp(disch:=apply zq;omega) only[go_sem,simprocAttr,↓wD,xx,Oc,m18,c17,c43,c44,c45,c46,c22,aI,e1,e2,c48,rY,kW]
 . have hkn2:¬(k<l.length/\(at' l k).cmp ⟨w,g,0,0⟩=0):=hkn;simp only[hkn2,decide_false]at c46;have r4:l.length≠10000:=r3.resolve_left hkn;simp(disch:=apply zq;omega) only[go_sem,simprocAttr,↓wD,xx,Oc,m18,c17,c43,c44,c45,c46,c22,aI,e1,e2,c48,rY,kW]
end
def sD :List Q4->Int
 | []=>0
 | x::l=>x.d+sD l
theorem rT :∀l m:List Q4,sD (l++m)=sD l+sD m
 | [],m=>by simp[sD]
 | x::l,m=>by rw[List.cons_append,sD,sD,rT l m];omega
structure BI (w:Int)(l:List Q4)(S:Int):Prop where
 rw:∀x∈l,x.w=w/\(1<=x.g/\x.g<=1073741824)/\0<=x.d/\x.b=0
 pw:l.Pairwise fun a b=>a.g<b.g
 sm:sD l=S
theorem DY :∀{l:List Q4},(∀x∈l,0<=x.d)->0<=sD l
 | [],_=>Int.le_refl _
 | x::l,h=>by
   have:=DY (l:=l) fun y hy=>h y (by simp[hy])
   have:=h x (by simp);rw[sD];omega
theorem iZ {l:List Q4}{i:Nat}(h:i<l.length):at' l i∈l:=by rw[<-nz h];exact List.getElem_mem h
section
variable {w c S:Int} {l:List Q4} (hb:BI w l S)
include hb
theorem ER {i:Nat}(hi:i<l.length):sD (l.take (i+1))=sD (l.take i)+(at' l i).d:=by rw[take_at hi,rT];simp[sD]
theorem V7 (i:Nat):sD (l.take i)<=S:=by
 have h1:=rT (l.take i) (l.drop i);rw[wU,hb.sm]at h1;have:=DY (l:=l.drop i) fun x hx=>(hb.rw x (wQ hx)).2.2.1
 omega
theorem Dm :∀i,i<=l.length->fU l i=sD (l.take i)/\mq l w i=sD (l.take i)
 | 0,_=>⟨rfl,rfl⟩
 | i+1,hi=>by
   obtain⟨h1,h2⟩:=Dm i (by omega);have h3:=hb.rw _ (iZ (show i<l.length by omega));rw[ER hb (by omega),fU,mq,if_pos h3.1,h1,h2,h3.2.2.2,if_neg]
   . omega
   . rintro ⟨h4,h5⟩;have h6:=hb.rw _ (iZ (show i-1<l.length by omega));omega
theorem P1 {i j:Nat}(hij:i<j)(hj:j<l.length):(at' l i).g<(at' l j).g:=by have:=List.pairwise_iff_getElem.1 hb.pw i j (by omega) hj hij;rw[nz,nz]at this;exact this
theorem bi_vb (hw:0<=w/\w<=1099511627776)(hc:0<=c/\c<=1073741824)(hS:S<=c)(hl:l.length<=10000):VB c 1000 l where
 c:=hc
 n:=by omega
 r:=hl
 ok i hi:=by
  obtain⟨h1,h2,h3,h4⟩:=hb.rw _ (iZ hi);have hle:=V7 hb (i+1);have ht:=ER hb hi;have h0:=DY (l:=l.take i) fun x hx=>(hb.rw x (wP hx)).2.2.1
  refine⟨by omega,h2,by omega,by omega,fun h0=> ?_,by rw[(Dm hb (i+1) (by omega)).1];omega⟩;have:=P1 hb (show i-1<i by omega) hi;have:=(hb.rw _ (iZ (show i-1<l.length by omega))).1;rw[lG];omega
theorem Uc {g:Int}(hg:1<=g/\g<=1073741824)(hnew:∀y∈l,y.g≠g){k:Nat}(hk:Lb l (key w g) k){m:Int}(hm:0<=m) :
  ¬Kn l k w g/\BI w (iD l k ⟨w,g,m,0⟩) (S+m):=by
 have hkn:¬(k<l.length/\(at' l k).cmp (key w g)=0):=fun h=>hnew _ (iZ h.1) (yX.1 h.2).2
 have hkn':¬(k<l.length/\(at' l k).cmp ⟨w,g,m,0⟩=0):=fun h=>hnew _ (iZ h.1) (yX.1 h.2).2
 refine⟨hkn,?_,?_,?_⟩
 . intro x hx;rw[iD,if_neg hkn',wZ,wT]at hx;rcases hx with hx|rfl|hx
   . exact hb.rw x (wP hx)
   . exact⟨rfl,hg,hm,rfl⟩
   . exact hb.rw x (wQ hx)
 . rw[iD,if_neg hkn',List.pairwise_append];have lo:∀a∈l.take k,a.g<g:=fun a ha=>by obtain⟨i,hi,rfl⟩:=wR ha;rw[wO]at hi;rw[List.getElem_take,nz];have h1:=lG.1 (hk.lo i (by omega));have h2:=(hb.rw _ (iZ (show i<l.length by omega))).1;simp only[key]at h1;omega
   have hi:∀a∈l.drop k,g<a.g:=fun a ha=>by
    obtain⟨i,hi,rfl⟩:=wR ha;rw[wY]at hi;rw[List.getElem_drop,nz];have h1:=hk.hi (k+i) (by omega) (by omega);have h2:=(hb.rw _ (iZ (show k+i<l.length by omega))).1;have h3:=hnew _ (iZ (show k+i<l.length by omega));have h4:¬(at' l (k+i)).cmp (key w g)<0:=by omega
    rw[lG]at h4;simp only[key]at h4;omega
   refine⟨hb.pw.sublist (List.take_sublist k l),List.Pairwise.cons hi (hb.pw.sublist (List.drop_sublist k l)),fun a ha b hbm=> ?_⟩;have h1:=lo a ha;rcases wT.1 hbm with rfl|hbm
   . exact h1
   . have:=hi b hbm;omega
 . rw[iD,if_neg hkn',rT,sD,<-hb.sm];have h1:=rT (l.take k) (l.drop k);rw[wU]at h1;simp only;omega
end
theorem deal_bi (h:7<=n){w c S:Int}{l:List Q4}(hb:BI w l S)(hw:0<=w/\w<=1099511627776)(hc:0<=c/\c<=1073741824)(hl:l.length<10000){f:Bool}{sh:Sh}(hs:Shp l sh){g m:Int}
  (hg:1<=g/\g<=1073741824) (hm:1<=m) (hS:S+m<=c) (hnew:∀y∈l,y.g≠g) :
  ∃l',BI w l' (S+m)/\l'.length=l.length+1/\(∀y∈l',y∈l\/y.g=g)/\call gl tab n 18 [bank c 1000 f sh l,i64 w,i64 g,i64 m] []=some (.tup [bank c 1000 false sR l',i64 0],[],[]) /\
   call gl tab n 19 [bank c 1000 false sR l',i64 w,i64 g] []=some (i64 m,[],[]):=by
 have hv:=bi_vb hb hw hc (by omega) (by omega);obtain⟨k,hk⟩:=xh (xz hv) (key w g);obtain⟨hkn,hb'⟩:=Uc hb hg hnew hk (show 0<=m by omega);have hro:fh l k (key w g)=key w g:=if_neg hkn;have e1:more l k w g m=⟨w,g,m,0⟩:=by unfold more;rw[hro];simp[key]
 have hnn:=DY (l:=l) fun x hx=>(hb.rw x hx).2.2.1
 have hsm:=hb.sm;have c18:=@Ou gl n c 1000 f sh l w g m k hs (by omega) h hv ⟨hw,hg,by omega⟩ hk ⟨by rw[(Dm hb l.length (wF _)).2,wX];omega,by rw[hro];simp[key];omega,.inr (by omega)⟩;rw[e1]at c18;have hkn':¬(k<l.length/\(at' l k).cmp ⟨w,g,m,0⟩=0):=hkn;have e2:iD l k ⟨w,g,m,0⟩=l.take k++⟨w,g,m,0⟩::l.drop k:=by rw[iD,if_neg hkn']
 have hle:=hk.le;have hlen:(iD l k ⟨w,g,m,0⟩).length=l.length+1:=by rw[e2,List.length_append,List.length_cons,wO,wY];omega
 have hatk:at' (iD l k ⟨w,g,m,0⟩) k=⟨w,g,m,0⟩:=by unfold at';rw[e2,wM,List.getElem?_append_right (by rw[wO];omega),wO,Nat.min_eq_left hle,Nat.sub_self];rfl
 refine⟨iD l k ⟨w,g,m,0⟩,hb',hlen,fun y hy=> ?_,c18,?_⟩
 . rw[e2,wZ,wT]at hy;rcases hy with hy|rfl|hy
   . exact .inl (wP hy)
   . exact .inr rfl
   . exact .inl (wQ hy)
 . generalize iD l k ⟨w,g,m,0⟩=l' at *
   have hv':=bi_vb hb' hw hc (by omega) (by omega);obtain⟨j,hj⟩:=xh (xz hv') (key w g);have hz:(at' l' k).cmp (key w g)=0:=by rw[hatk,yX];exact⟨rfl,rfl⟩
   have hjk:j=k:=by
    rcases Nat.lt_trichotomy j k with h1|h1|h1
    . have:=hj.hi j (wF _) (by omega);have h2:=P1 hb' h1 (by omega);have h3:=(hb'.rw _ (iZ (show j<l'.length by omega))).1;have:¬(at' l' j).cmp (key w g)<0:=by omega
      rw[lG]at this;rw[hatk]at h2;simp only[key]at this h2;omega
    . exact h1
    . have:=hj.lo k h1;omega
   subst hjk;have c19:=@Ot gl n (by omega) c 1000 false sR l' (.inr rfl) w g hv' j hj;rw[show(fh l' j (key w g)).d=m by unfold fh;rw[if_pos ⟨by omega,hz⟩,hatk]]at c19;exact c19
theorem bi_0 (w:Int):BI w [] 0:=⟨fun x h=>(by cases h),List.Pairwise.nil,rfl⟩
end Go.Proofs.S51.C
namespace Go.Fl
structure Ar where
 f:Nat
 t:Nat
 c:Int
 k:Int
def nth (l:List Int)(i:Nat):Int:=l.getD i 0
def art (l:List Ar)(i:Nat):Ar:=l.getD i ⟨0,0,0,0⟩
theorem bZ {l:List Int}{i:Nat}(hi:i<l.length)(x:Int)(j:Nat):nth (l.set i x) j=if j=i then x else nth l j:=by
 unfold nth;rw[wM,wW];by_cases h:j=i
 . subst h;simp[hi]
 . rw[if_neg (fun e=>h e.symm),if_neg h,wM]
structure Nt where
 n:Nat
 a:List Ar
structure NOk (g:Nt)(K:Int):Prop where
 f:∀i,i<g.a.length->(art g.a i).f<g.n
 t:∀i,i<g.a.length->(art g.a i).t<g.n
 ne:∀i,i<g.a.length->(art g.a i).f≠(art g.a i).t
 c:∀i,i<g.a.length->0<=(art g.a i).c
 k:∀i,i<g.a.length->0<=(art g.a i).k/\(art g.a i).k<=K
def inc (g:Nt)(u i:Nat):Prop:=i<g.a.length/\((art g.a i).f=u\/(art g.a i).t=u)
def oth (g:Nt)(u i:Nat):Nat:=if(art g.a i).f=u then(art g.a i).t else(art g.a i).f
def room (g:Nt)(fl:List Int)(u i:Nat):Int:=if(art g.a i).f=u then(art g.a i).c-nth fl i else nth fl i
def cst (g:Nt)(u i:Nat):Int:=if(art g.a i).f=u then(art g.a i).k else -(art g.a i).k
def red (g:Nt)(pr:List Int)(u i:Nat):Int:=cst g u i+nth pr u-nth pr (oth g u i)
theorem jI {g:Nt}{K:Int}(h:NOk g K){u i:Nat}(hi:inc g u i):oth g u i<g.n:=by
 unfold oth;split
 . exact h.t i hi.1
 . exact h.f i hi.1
theorem IQ {g:Nt}{K:Int}(h:NOk g K){u i:Nat}(hi:inc g u i):oth g u i≠u:=by
 unfold oth;split
 . rename_i e;rw[<-e];exact(h.ne i hi.1).symm
 . rename_i e;exact e
theorem NV {g:Nt}{u i:Nat}(hi:inc g u i):inc g (oth g u i) i:=by
 refine⟨hi.1,?_⟩;unfold oth;split
 . exact .inr rfl
 . exact .inl rfl
theorem Ec {g:Nt}{K:Int}(h:NOk g K){u i:Nat}(hi:inc g u i):oth g (oth g u i) i=u:=by
 rcases hi with ⟨h1,h2|h2⟩
 . have hn:=h.ne i h1;unfold oth;rw[if_pos h2,if_neg (by rw[h2]at hn ⊢;exact hn),h2]
 . have hn:=h.ne i h1;have:¬(art g.a i).f=u:=fun e=>hn (e.trans h2.symm)
   unfold oth;rw[if_neg this,if_pos rfl,h2]
theorem Oz {g:Nt}{K:Int}(h:NOk g K){u i:Nat}(hi:inc g u i):cst g (oth g u i) i=-cst g u i:=by
 have hn:=h.ne i hi.1;unfold cst oth;by_cases e:(art g.a i).f=u
 . rw[if_pos e,if_pos e,if_neg hn]
 . rw[if_neg e,if_neg e,if_pos rfl,Int.neg_neg]
theorem M2 {g:Nt}{K:Int}(h:NOk g K){pr:List Int}{u i:Nat}(hi:inc g u i):red g pr (oth g u i) i=-red g pr u i:=by unfold red;rw[Oz h hi,Ec h hi];omega
def giv (a:List Ar)(fl:List Int)(v:Nat):Nat->Int
 | 0=>0
 | i+1=>giv a fl v i+(if(art a i).f=v then nth fl i else 0)-(if(art a i).t=v then nth fl i else 0)
structure FB (g:Nt)(fl:List Int):Prop where
 l:fl.length=g.a.length
 b:∀i,i<g.a.length->0<=nth fl i/\nth fl i<=(art g.a i).c
def add (g:Nt)(fl:List Int)(u i:Nat)(x:Int):List Int:=fl.set i (nth fl i+if(art g.a i).f=u then x else -x)
theorem uz (g:Nt)(fl:List Int)(u i:Nat)(x:Int):(add g fl u i x).length=fl.length:=by simp[add]
theorem q7 {g:Nt}{fl:List Int}{u i:Nat}(hi:i<fl.length)(x:Int)(j:Nat):nth (add g fl u i x) j=if j=i then nth fl i+(if(art g.a i).f=u then x else -x)else nth fl j:=by unfold add;rw[bZ hi]
theorem Uq {g:Nt}{fl:List Int}{u i:Nat}(h:FB g fl)(hi:inc g u i){x:Int}(hx:0<=x/\x<=room g fl u i):FB g (add g fl u i x):=by
 have hl:=hi.1;refine⟨by rw[uz];exact h.l,fun j hj=> ?_⟩;rw[q7 (by rw[h.l];exact hl)];by_cases e:j=i
 . subst e;rw[if_pos rfl];have:=h.b j hj;unfold room at hx;by_cases e2:(art g.a j).f=u
   . rw[if_pos e2]at hx ⊢;omega
   . rw[if_neg e2]at hx ⊢;omega
 . rw[if_neg e];exact h.b j hj
theorem yH {a:List Ar}{fl:List Int}{i:Nat}(hi:i<fl.length)(x:Int)(v:Nat):∀m,giv a (fl.set i x) v m=giv a fl v m+if i<m then(if(art a i).f=v then x-nth fl i else 0)-(if(art a i).t=v then x-nth fl i else 0)else 0
 | 0=>by simp[giv]
 | m+1=>by
   rw[giv,giv,yH hi x v m,bZ hi];by_cases e:m=i
   . subst e;rw[if_neg (Nat.lt_irrefl _),if_pos (Nat.lt_succ_self _),if_pos rfl];split<;>split<;>omega
   . rw[if_neg e];by_cases h:i<m
     . rw[if_pos h,if_pos (show i<m+1 by omega)];omega
     . rw[if_neg h,if_neg (show ¬i<m+1 by omega)];omega
theorem N0 {g:Nt}{K:Int}(h:NOk g K){fl:List Int}{u i:Nat}(hl:fl.length=g.a.length)(hi:inc g u i)(x:Int)(v:Nat) :
  giv g.a (add g fl u i x) v g.a.length=giv g.a fl v g.a.length+(if v=u then x else 0)-(if v=oth g u i then x else 0):=by
 have hn:=h.ne i hi.1;unfold add;rw[yH (by rw[hl];exact hi.1),if_pos hi.1];unfold oth;rcases hi with ⟨h1,h2|h2⟩
 . rw[if_pos h2,if_pos h2];by_cases e1:v=u
   . subst e1;rw[if_pos h2,if_neg (fun e=>hn (h2.trans e.symm)),if_pos rfl,if_neg (fun e=>hn (h2.trans e))];omega
   . rw[if_neg (fun e=>e1 (e.symm.trans h2)),if_neg e1];by_cases e2:v=(art g.a i).t
     . rw[if_pos e2.symm,if_pos e2];omega
     . rw[if_neg (fun e=>e2 e.symm),if_neg e2];omega
 . have h3:¬(art g.a i).f=u:=fun e=>hn (e.trans h2.symm)
   rw[if_neg h3,if_neg h3];by_cases e1:v=u
   . subst e1;rw[if_neg h3,if_pos h2,if_pos rfl,if_neg (fun e=>h3 e.symm)];omega
   . rw[if_neg (show ¬(art g.a i).t=v from fun e=>e1 (e.symm.trans h2)),if_neg e1];by_cases e2:v=(art g.a i).f
     . rw[if_pos e2.symm,if_pos e2];omega
     . rw[if_neg (fun e=>e2 e.symm),if_neg e2];omega
def RN (g:Nt)(fl pr:List Int):Prop:=∀u i,inc g u i->0<room g fl u i->0<=red g pr u i
theorem HS {g:Nt}{fl:List Int}{u i:Nat}(hl:i<fl.length)(x:Int){v j:Nat}(hj:j≠i):room g (add g fl u i x) v j=room g fl v j:=by unfold room;rw[q7 hl,if_neg hj]
theorem Up {g:Nt}{K:Int}(h:NOk g K){fl pr:List Int}(hl:fl.length=g.a.length)(hr:RN g fl pr){u i:Nat}(hi:inc g u i)(hz:red g pr u i=0)(x:Int):RN g (add g fl u i x) pr:=by
 intro v j hv hp;by_cases e:j=i
 . subst e
   have:v=u\/v=oth g u j:=by
    rcases hi with ⟨_,h2⟩;rcases hv with ⟨_,h3⟩;unfold oth;by_cases e:(art g.a j).f=u
    . rw[if_pos e];rcases h3 with h3|h3
      . exact .inl (h3.symm.trans e)
      . exact .inr h3.symm
    . rw[if_neg e];rcases h3 with h3|h3
      . exact .inr h3.symm
      . exact .inl (h3.symm.trans (h2.resolve_left e))
   rcases this with rfl|rfl
   . omega
   . rw[M2 h hi];omega
 . rw[HS (by rw[hl];exact hi.1) x e]at hp;exact hr v j hv hp
def dd (l:List Bool)(i:Nat):Bool:=l.getD i false
theorem nl {l:List Bool}{i:Nat}(hi:i<l.length)(x:Bool)(j:Nat):dd (l.set i x) j=if j=i then x else dd l j:=by
 unfold dd;rw[wM,wW];by_cases h:j=i
 . subst h;simp[hi]
 . rw[if_neg (fun e=>h e.symm),if_neg h,wM]
def CL (g:Nt)(fl pr:List Int)(dead:List Bool)(v:Nat):Prop:=∀i,inc g v i->0<room g fl v i->red g pr v i=0->dd dead (oth g v i)=true
theorem CL.mono {g:Nt}{fl pr:List Int}{d d':List Bool}{v:Nat}(h:CL g fl pr d v)(hm:∀v,dd d v=true->dd d' v=true):CL g fl pr d' v:=fun i hi hp hz=>hm _ (h i hi hp hz)
def Adj (g:Nt)(adj:Nat->List Nat):Prop:=∀v,v<g.n->∀i,i∈adj v↔inc g v i
structure PI (g:Nt)(pr:List Int)(to:Nat)(adj:Nat->List Nat)(u:Nat)(M:Int)(fl0:List Int)(dead0:List Bool)(j:Nat)(fl:List Int)(dead:List Bool)(sent:Int):Prop where
 s:0<=sent/\sent<=M
 dl:dead.length=dead0.length
 dm:∀v,dd dead0 v=true->dd dead v=true
 du:dd dead u=true
 fb:FB g fl
 rn:RN g fl pr
 gv:∀v,giv g.a fl v g.a.length=giv g.a fl0 v g.a.length+(if v=u then sent else 0)-(if v=to then sent else 0)
 fx:∀i,i<g.a.length->dd dead0 (art g.a i).f=true\/dd dead0 (art g.a i).t=true->nth fl i=nth fl0 i
 z:sent=0->fl=fl0/\(∀v,dd dead v=true->dd dead0 v=true\/v=u\/(v≠to/\CL g fl0 pr dead v)) /\
  ∀j',j'<j->∀i,(adj u)[j']? =some i->0<room g fl0 u i->red g pr u i=0->dd dead (oth g u i)=true
structure PP (g:Nt)(pr:List Int)(to:Nat)(u:Nat)(M:Int)(fl0:List Int)(dead0:List Bool)(fl:List Int)(dead:List Bool)(r:Int):Prop where
 s:0<=r/\r<=M
 dl:dead.length=dead0.length
 dm:∀v,dd dead0 v=true->dd dead v=true
 fb:FB g fl
 rn:RN g fl pr
 gv:∀v,giv g.a fl v g.a.length=giv g.a fl0 v g.a.length+(if v=u then r else 0)-(if v=to then r else 0)
 fx:∀i,i<g.a.length->dd dead0 (art g.a i).f=true\/dd dead0 (art g.a i).t=true->nth fl i=nth fl0 i
 z:r=0->0<M->fl=fl0/\u≠to/\dd dead u=true/\∀v,dd dead v=true->dd dead0 v=true\/(v≠to/\CL g fl0 pr dead v)
section
variable {g :Nt} {K:Int} (hg:NOk g K) {pr:List Int} {to:Nat} {adj:Nat->List Nat} {u:Nat} {M:Int} {fl0:List Int} {dead0:List Bool}
theorem RD (h:u=to\/M=0)(hM:0<=M)(hb:FB g fl0)(hr:RN g fl0 pr):PP g pr to u M fl0 dead0 fl0 dead0 M where
 s:=⟨hM,Int.le_refl _⟩
 dl:=rfl
 dm:=fun _ h=>h
 fb:=hb
 rn:=hr
 gv:=fun v=>by
  rcases h with rfl|rfl
  . split<;>omega
  . split<;>split<;>omega
 fx:=fun _ _ _=>rfl
 z:=fun h1 h2=>by omega
theorem XR (hM:0<=M)(hu:u<dead0.length)(hb:FB g fl0)(hr:RN g fl0 pr):PI g pr to adj u M fl0 dead0 0 fl0 (dead0.set u true) 0 where
 s:=⟨Int.le_refl _,hM⟩
 dl:=by simp
 dm:=fun v h=>by rw[nl hu];split<;>simp_all
 du:=by rw[nl hu,if_pos rfl]
 fb:=hb
 rn:=hr
 gv:=fun v=>by split<;>split<;>omega
 fx:=fun _ _ _=>rfl
 z:=fun _=>⟨rfl,fun v h=>by
  rw[nl hu]at h;by_cases e:v=u
  . exact .inr (.inl e)
  . rw[if_neg e]at h;exact .inl h,fun j' h=>absurd h (wG j')⟩
theorem D8 {j:Nat}{fl:List Int}{dead:List Bool}{sent:Int}(h:PI g pr to adj u M fl0 dead0 j fl dead sent){i:Nat}(hj:(adj u)[j]? =some i)
  (hs:room g fl u i<=0\/dd dead (oth g u i)=true\/red g pr u i≠0):PI g pr to adj u M fl0 dead0 (j+1) fl dead sent where
 s:=h.s
 dl:=h.dl
 dm:=h.dm
 du:=h.du
 fb:=h.fb
 rn:=h.rn
 gv:=h.gv
 fx:=h.fx
 z:=fun e=>by
  obtain⟨z1,z2,z3⟩:=h.z e;refine⟨z1,z2,fun j' hj' i' hi' hp hz=> ?_⟩;by_cases e2:j'=j
  . subst e2;rw[hj]at hi';obtain rfl:=Option.some.inj hi';rw[z1]at hs;rcases hs with hs|hs|hs
    . omega
    . exact hs
    . exact absurd hz hs
  . exact z3 j' (by omega) i' hi' hp hz
include hg
theorem Nb (hu0:dd dead0 u=false){j:Nat}{fl:List Int}{dead:List Bool}{sent:Int}(h:PI g pr to adj u M fl0 dead0 j fl dead sent){i:Nat}(hj:(adj u)[j]? =some i)(hi:inc g u i)
  (hx:dd dead (oth g u i)=false) (hz:red g pr u i=0) {m:Int} (hm:m<=room g fl u i/\m<=M-sent) (hm0:0<m) {fl':List Int} {dead':List Bool} {r:Int} (hp:PP g pr to (oth g u i) m fl dead fl' dead' r) :
  PI g pr to adj u M fl0 dead0 (j+1) (add g fl' u i r) dead' (sent+r):=by
 have hlen:=hp.fb.l;have hil:i<fl'.length:=by rw[hlen];exact hi.1
 have hui:nth fl' i=nth fl i:=hp.fx i hi.1 (by rcases hi.2 with e|e<;>rw[e];exact .inl h.du;exact .inr h.du);have hroom:room g fl' u i=room g fl u i:=by unfold room;rw[hui]
 have hs:=h.s;have hps:=hp.s;have ho0:dd dead0 (oth g u i)=false:=by
  cases hd:dd dead0 (oth g u i)with
  | false=>rfl
  | true=>rw[h.dm _ hd]at hx;cases hx
 refine⟨by omega,by rw[hp.dl];exact h.dl,fun v hv=>hp.dm v (h.dm v hv),hp.dm u h.du,Uq hp.fb hi (by rw[hroom];omega),Up hg hlen hp.rn hi hz r,fun v=> ?_,fun k hk hd=> ?_,fun e=> ?_⟩
 . rw[N0 hg hlen hi,hp.gv,h.gv];generalize giv g.a fl0 v g.a.length=a;split<;>split<;>split<;>omega
 . have hki:k≠i:=by
    rintro rfl;have:(art g.a k).f=u/\(art g.a k).t=oth g u k\/(art g.a k).t=u/\(art g.a k).f=oth g u k:=by
     unfold oth;by_cases e:(art g.a k).f=u
     . rw[if_pos e];exact .inl ⟨e,rfl⟩
     . rw[if_neg e];exact .inr ⟨hi.2.resolve_left e,rfl⟩
    rcases this with ⟨e1,e2⟩|⟨e1,e2⟩
    . rw[e1,e2,hu0,ho0]at hd;rcases hd with hd|hd<;>cases hd
    . rw[e1,e2,hu0,ho0]at hd;rcases hd with hd|hd<;>cases hd
   rw[q7 hil,if_neg hki,hp.fx k hk (hd.imp (h.dm _) (h.dm _)),h.fx k hk hd]
 . have e1:sent=0:=by omega
   have e2:r=0:=by omega
   obtain⟨z1,z2,z3⟩:=h.z e1;obtain⟨y1,y2,y3,y4⟩:=hp.z e2 hm0;have e3:add g fl' u i r=fl0:=by
    rw[e2];refine List.ext_getElem (by rw[uz,y1,z1]) fun k h1 h2=> ?_
    have:nth (add g fl' u i 0) k=nth fl' k:=by
     rw[q7 hil];split
     . rename_i e;rw[e];split<;>omega
     . rfl
    unfold nth at this;rw[wM,wM,wN h1,wN (by rw[y1,z1];exact h2)]at this;have h3:fl'[k]'(by rw[y1,z1];exact h2)=fl0[k]:=by congr 1;rw[y1,z1]
    rw[<-h3];exact this
   have e4:oth g u i≠to\/True:=.inr trivial;refine⟨e3,fun v hv=> ?_,fun j' hj' i' hi' hp' hz'=> ?_⟩
   . rcases y4 v hv with h5|h5
     . rcases z2 v h5 with h6|h6|h6
       . exact .inl h6
       . exact .inr (.inl h6)
       . exact .inr (.inr ⟨h6.1,h6.2.mono hp.dm⟩)
     . rw[z1]at h5;exact .inr (.inr h5)
   . by_cases e5:j'=j
     . subst e5;rw[hj]at hi';obtain rfl:=Option.some.inj hi';exact y3
     . exact hp.dm _ (z3 j' (by omega) i' hi' hp' hz')
omit hg in
theorem RF (ha:Adj g adj)(hun:u<g.n)(hto:u≠to)(hu0:dd dead0 u=false)(hu:u<dead0.length){j:Nat}{fl:List Int}{dead:List Bool}{sent:Int}(h:PI g pr to adj u M fl0 dead0 j fl dead sent)(hj:sent<M->(adj u).length<=j) :
  PP g pr to u M fl0 dead0 fl (dead.set u (decide (sent<M))) sent:=by
 have hul:u<dead.length:=by rw[h.dl];exact hu
 refine⟨h.s,by simp;exact h.dl,fun v hv=> ?_,h.fb,h.rn,h.gv,h.fx,fun e hM=> ?_⟩
 . rw[nl hul];by_cases e:v=u
   . rw[e,hu0]at hv;cases hv
   . rw[if_neg e];exact h.dm v hv
 . obtain⟨z1,z2,z3⟩:=h.z e;have hlt:sent<M:=by omega
   have hsame:∀v,dd (dead.set u (decide (sent<M))) v=dd dead v:=fun v=>by
    rw[nl hul,decide_eq_true hlt];split
    . rename_i e2;rw[e2,h.du]
    . rfl
   refine⟨z1,hto,by rw[hsame];exact h.du,fun v hv=> ?_⟩;rw[hsame]at hv;rcases z2 v hv with h1|h1|h1
   . exact .inl h1
   . refine .inr ⟨by rw[h1];exact hto,fun i hi hp hz=> ?_⟩;rw[h1]at hi hp hz ⊢;rw[hsame];obtain⟨j',hj',e3⟩:=wR ((ha u hun i).2 hi);exact z3 j' (by have:=hj hlt;omega) i (by rw[wN hj',e3]) hp hz
   . exact .inr ⟨h1.1,h1.2.mono fun w hw=>by rw[hsame];exact hw⟩
end
end Go.Fl
