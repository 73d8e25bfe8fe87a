/-
  Chapter 30: where a site is. No condition.
-/
import Derived.Test.YtjenmopgcpnklaaDoorW30G12x5
set_option linter.unusedVariables false
set_option linter.unusedSimpArgs false
set_option linter.unusedSectionVars false
namespace Go.Proofs.S30.G
open Go Go.Ev Go.Proofs
variable {gl :Gl} {n:Nat}
theorem nan_at (h:1<=n)(x:Int):call gl tab n 66 [i64 x] []=some (.bool false,[],[]):=by
 obtain⟨d,rfl⟩:=Nat.exists_eq_add_of_le' h
 rw[call_go (fd:=fd66) rfl]
 simp(disch:=((fail_if_success (intro _));omega)) only[go_sem,simprocAttr,↓reduceIte,↓Nat.reduceEqDiff,xx,fd66,m66]
def cm (x y:Int):Int:=if x<y then -1 else if y<x then 1 else 0
theorem cmp_at (h:2<=n)(x y:Int):call gl tab n 52 [i64 x,i64 y] []=some (i64 (cm x y),[],[]):=by
 obtain⟨d,rfl⟩:=Nat.exists_eq_add_of_le' h
 have c1:=@nan_at gl (d+1) (by omega) x
 have c2:=@nan_at gl (d+1) (by omega) y
 rw[call_go (fd:=fd52) rfl]
 unfold cm
 by_cases h1:x<y
 . rw[if_pos h1];simp(disch:=((fail_if_success (intro _));omega)) only[go_sem,simprocAttr,↓reduceIte,↓Nat.reduceEqDiff,xx,fd52,m52,c1,c2]
 . rw[if_neg h1]
   by_cases h2:y<x
   . rw[if_pos h2];simp(disch:=((fail_if_success (intro _));omega)) only[go_sem,simprocAttr,↓reduceIte,↓Nat.reduceEqDiff,xx,fd52,m52,c1,c2]
   . rw[if_neg h2];simp(disch:=((fail_if_success (intro _));omega)) only[go_sem,simprocAttr,↓reduceIte,↓Nat.reduceEqDiff,xx,fd52,m52,c1,c2]
theorem cmpG_at (h:3<=n)(x:Gt)(y:Int):call gl tab n 51 [.agg [i64 x.s,i64 x.h,i64 x.u],i64 y] []=some (i64 (cm x.s y),[],[]):=by
 obtain⟨d,rfl⟩:=Nat.exists_eq_add_of_le' h
 have c1:=@cmp_at gl (d+2) (by omega) x.s y
 rw[call_go (fd:=fd51) rfl]
 simp(disch:=((fail_if_success (intro _));omega)) only[go_sem,simprocAttr,↓reduceIte,↓Nat.reduceEqDiff,xx,fd51,m51,c1]
structure Pos (l:List Gt)(a:Int)(k:Nat):Prop where
 le:k<=l.length
 lo:∀j,j<k->(gat l j).s<a
 hi:∀j,k<=j->j<l.length->a<=(gat l j).s
theorem Pos.one {l:List Gt}{a:Int}{k k':Nat}(h:Pos l a k)(h':Pos l a k'):k=k':=by
 rcases Nat.lt_trichotomy k k' with h1|h1|h1
 . have:=h.hi k (Nat.le_refl _) (by have:=h'.le;omega);have:=h'.lo k h1;omega
 . exact h1
 . have:=h'.hi k' (Nat.le_refl _) (by have:=h.le;omega);have:=h.lo k' h1;omega
theorem VG.mono {t m:Int}{l:List Gt}(h:VG t m l):∀j i,i<j->j<l.length->(gat l i).s<(gat l j).s
 | 0,i,hi,hj=>by omega
 | j+1,i,hi,hj=>by
   have h1:=(h.1 (j+1) hj).2.1
   rw[pv]at h1
   by_cases he:i=j
   . subst he;exact h1
   . have:=VG.mono h j i (by omega) (by omega);omega
def L50 :MC:=match m50 with| .seq _ (.seq _ (.seq _ (.seq (.block _ (.loop _ b)) _)))=>b|_=>.skip
def S50 (f:Bool)(sh:Sh)(l:List Gt)(a:Int)(x:Nat×Nat):St:=⟨[.set 10 (i64 x.2),.set 9 (i64 x.1),.set 8 (i64 l.length),.set 2 (.fn 51 []),.set 1 (i64 a),.set 0 (.lst f sh (gs l))],[]⟩
theorem half_i {x:Nat}(h:x<2^62):IntKind.wrap .i64 (((BitVec.ofInt 64 (x:Int))>>>(1:Nat)).toNat:Int)=((x/2:Nat):Int):=by
 have e:(BitVec.ofInt 64 (x:Int)).toNat=x:=by rw[BitVec.ofInt_natCast,BitVec.toNat_ofNat];omega
 rw[BitVec.toNat_ushiftRight,e,Nat.shiftRight_eq_div_pow,wrap_i64 (by omega) (by omega)]
theorem search_at (h:4<=n){t m:Int}{f:Bool}{sh:Sh}{l:List Gt}(hv:VG t m l)(hm:Mg l sh)(hl:l.length<=1000000)(a:Int) :
  ∃k,Pos l a k/\call gl tab n 50 [.lst f sh (gs l),i64 a,.fn 51 []] []=some (.tup [i64 k,.bool (decide (k<l.length/\(gat l k).s=a))],[],[]):=by
 obtain⟨d,rfl⟩:=Nat.exists_eq_add_of_le' h
 have hL:=gs_length l
 obtain⟨⟨lo,hi⟩,⟨i1,i2,i3,i4⟩,hgo,hit⟩:=iter_meas (f:=evC gl (call gl tab (d+3)) L50) (ks:=[.slot 0,.slot 1,.slot 2,.slot 8,.slot 9,.slot 10]) (S50 f sh l a)
  (fun x=>x.1<=x.2/\x.2<=l.length/\(∀j,j<x.1->(gat l j).s<a)/\(∀j,x.2<=j->j<l.length->a<=(gat l j).s)) (fun x=>x.2-x.1)
  (fun x=>if(gat l ((x.1+x.2)/2)).s<a then((x.1+x.2)/2+1,x.2)else(x.1,(x.1+x.2)/2)) (fun x=>decide (x.1<x.2)) (a0:=(0,l.length)) (by unfold LF;simp;omega) ⟨by simp,by simp,fun j hj=>by simp at hj,fun j h1 h2=>by simp at h1;omega⟩
  (fun⟨x,y⟩ ⟨h1,h2,h3,h4⟩ hg=>by
    simp only[decide_eq_true_eq]at h1 h2 h3 h4 hg ⊢
    have hq:(x+y)/2<l.length:=by omega
    have hx:=gs_at hq
    have c:=@cmpG_at gl (d+3) (by omega) (gat l ((x+y)/2)) a
    have eh:IntKind.wrap .i64 (((BitVec.ofInt 64 ((x:Int)+(y:Int)))>>>(1:Nat)).toNat:Int)=(((x+y)/2:Nat):Int):=by rw[show(x:Int)+(y:Int)=((x+y:Nat):Int) by omega];exact half_i (by omega)
    obtain rfl:=hm.of hq
    by_cases hc:(gat l ((x+y)/2)).s<a
    . refine⟨?_,?_⟩
      . rw[if_pos hc,S50,S50]
        rw[cm,if_pos hc]at c
        generalize hq:(x+y)/2=q at *
        generalize gat l q=z at *
        simp(disch:=((fail_if_success (intro _));omega)) only[go_sem,simprocAttr,↓reduceIte,↓Nat.reduceEqDiff,xx,L50,m50,hL,hx,c,eh]
      . rw[if_pos hc]
        refine⟨⟨by simp only;omega,h2,fun j hj=> ?_,h4⟩,by simp only;omega⟩
        simp only at hj
        by_cases he:j=(x+y)/2
        . subst he;exact hc
        . have:=hv.mono _ j (by omega) hq;omega
    . have hc2:0<=cm (gat l ((x+y)/2)).s a:=by unfold cm;rw[if_neg hc];split<;>omega
      refine⟨?_,?_⟩
      . rw[if_neg hc,S50,S50]
        generalize hq:(x+y)/2=q at *
        generalize cm (gat l q).s a=w at *
        generalize gat l q=z at *
        simp(disch:=((fail_if_success (intro _));omega)) only[go_sem,simprocAttr,↓reduceIte,↓Nat.reduceEqDiff,xx,L50,m50,hL,hx,c,eh]
      . rw[if_neg hc]
        refine⟨⟨by simp only;omega,by simp only;omega,h3,fun j hj hj2=> ?_⟩,by simp only;omega⟩
        simp only at hj
        by_cases he:j=(x+y)/2
        . subst he;omega
        . have:=hv.mono j _ (show(x+y)/2<j by omega) hj2;omega)
  (fun⟨x,y⟩ ⟨h1,h2,h3,h4⟩ hg=>by
    simp only[decide_eq_false_iff_not]at h1 h2 hg
    rw[S50]
    simp(disch:=((fail_if_success (intro _));omega)) only[go_sem,simprocAttr,↓reduceIte,↓Nat.reduceEqDiff,xx,L50,m50,hL])
 simp only[decide_eq_false_iff_not]at i1 i2 i3 i4 hgo
 obtain rfl:lo=hi:=by omega
 refine⟨lo,⟨i2,i3,i4⟩,?_⟩
 simp only[L50,m50]at hit
 by_cases hlt:lo<l.length
 . have hx:=gs_at hlt
   have c:=@cmpG_at gl (d+3) (by omega) (gat l lo) a
   obtain rfl:=hm.of hlt
   have hge:=i4 lo (Nat.le_refl _) hlt
   by_cases heq:(gat l lo).s=a
   . rw[decide_eq_true ⟨hlt,heq⟩]
     rw[cm,if_neg (by omega),if_neg (by omega)]at c
     rw[call_go (fd:=fd50) rfl]
     simp(disch:=((fail_if_success (intro _));omega)) only[go_sem,simprocAttr,↓reduceIte,↓Nat.reduceEqDiff,xx,fd50,m50,hL]
     rw[hit _ (by rw[S50];simp(disch:=((fail_if_success (intro _));omega)) only[go_sem,simprocAttr,↓reduceIte,↓Nat.reduceEqDiff,xx])]
     rw[S50]
     generalize gat l lo=z at *
     simp(disch:=((fail_if_success (intro _));omega)) only[go_sem,simprocAttr,↓reduceIte,↓Nat.reduceEqDiff,xx,hL,hx,c]
   . rw[decide_eq_false (fun h=>heq h.2)]
     rw[cm,if_neg (by omega),if_pos (by omega)]at c
     rw[call_go (fd:=fd50) rfl]
     simp(disch:=((fail_if_success (intro _));omega)) only[go_sem,simprocAttr,↓reduceIte,↓Nat.reduceEqDiff,xx,fd50,m50,hL]
     rw[hit _ (by rw[S50];simp(disch:=((fail_if_success (intro _));omega)) only[go_sem,simprocAttr,↓reduceIte,↓Nat.reduceEqDiff,xx])]
     rw[S50]
     generalize gat l lo=z at *
     simp(disch:=((fail_if_success (intro _));omega)) only[go_sem,simprocAttr,↓reduceIte,↓Nat.reduceEqDiff,xx,hL,hx,c]
 . rw[decide_eq_false (fun h=>hlt h.1)]
   rw[call_go (fd:=fd50) rfl]
   simp(disch:=((fail_if_success (intro _));omega)) only[go_sem,simprocAttr,↓reduceIte,↓Nat.reduceEqDiff,xx,fd50,m50,hL]
   rw[hit _ (by rw[S50];simp(disch:=((fail_if_success (intro _));omega)) only[go_sem,simprocAttr,↓reduceIte,↓Nat.reduceEqDiff,xx])]
   rw[S50]
   simp(disch:=((fail_if_success (intro _));omega)) only[go_sem,simprocAttr,↓reduceIte,↓Nat.reduceEqDiff,xx,hL]
end Go.Proofs.S30.G
namespace Go.Proofs.S30.G
open Go Go.Ev Go.Proofs
variable {gl :Gl} {n:Nat}
abbrev o34 (o:Gt)(t m:Int)(f:Bool)(sh:Sh)(l:List Gt)(b:Bool)(k:Nat):List OB:=[.fix sG (gr o),.fix sG (gAV t m f sh l),.fix .sc (.bool b),.fix .sc (i64 k)]
abbrev fn53 :AV:=.fn 53 [.ptr 20000 [],.ptr 20001 [],.ptr 20002 [],.ptr 20003 []]
theorem site_is (h:5<=n){t m:Int}{f:Bool}{l:List Gt}{a:Int}{k:Nat}(hk:k<l.length)
  (c:call gl tab (n-1) 50 [.lst f sG (gs l),i64 a,.fn 51 []] []=some (.tup [i64 k,.bool true],[],[])) :
  call gl tab n 34 [gAV t m f sG l,i64 a] []=some (.tup [gr (gat l k),fn53],[],o34 (gat l k) t m f sG l true k):=by
 obtain⟨d,rfl⟩:=Nat.exists_eq_add_of_le' h
 rw[show d+5-1=d+4 from rfl]at c
 have hL:=gs_length l
 have hx:=gs_at hk
 generalize gat l k=x at *
 rw[call_gen (fd:=fd34) rfl]
 simp(disch:=((fail_if_success (intro _));omega)) only[go_sem,simprocAttr,↓reduceIte,↓Nat.reduceEqDiff,xx,fd34,m34,hL,hx,c]
theorem site_no (h:5<=n){t m:Int}{f:Bool}{sh:Sh}{l:List Gt}{a:Int}{k:Nat}
  (c:call gl tab (n-1) 50 [.lst f sh (gs l),i64 a,.fn 51 []] []=some (.tup [i64 k,.bool false],[],[])) :
  call gl tab n 34 [gAV t m f sh l,i64 a] []=some (.tup [gr ⟨a,0,0⟩,fn53],[],o34 ⟨a,0,0⟩ t m f sh l false k):=by
 obtain⟨d,rfl⟩:=Nat.exists_eq_add_of_le' h
 rw[show d+5-1=d+4 from rfl]at c
 have hL:=gs_length l
 rw[call_gen (fd:=fd34) rfl]
 simp(disch:=((fail_if_success (intro _));omega)) only[go_sem,simprocAttr,↓reduceIte,↓Nat.reduceEqDiff,xx,fd34,m34,hL,c]
theorem eqG (x y:Gt):eqAV (.st [.it,.it,.it]) (.agg [i64 x.s,i64 x.h,i64 x.u]) (.agg [i64 y.s,i64 y.h,i64 y.u])=some (decide (x=y)):=by
 obtain⟨x1,x2,x3⟩:=x
 obtain⟨y1,y2,y3⟩:=y
 by_cases h1:x1=y1
 . by_cases h2:x2=y2
   . by_cases h3:x3=y3
     . subst h1 h2 h3;simp[eqAV,eqAVs]
     . simp[eqAV,eqAVs,h1,h2,h3]
   . simp[eqAV,eqAVs,h1,h2]
 . simp[eqAV,eqAVs,h1]
abbrev h53 (o:Gt)(t m:Int)(f:Bool)(sh:Sh)(l:List Gt)(b:Bool)(k:Nat):Hp:=[(100000,.fix sG (gr o)),(100001,.fix sG (gAV t m f sh l)),(100002,.fix .sc (.bool b)),(100003,.fix .sc (i64 k))]
abbrev a53 (x:Gt):List AV:=[gr x,.ptr 100000 [],.ptr 100001 [],.ptr 100002 [],.ptr 100003 []]
theorem put_same (h:1<=n){o:Gt}{t m:Int}{f:Bool}{sh:Sh}{l:List Gt}{b:Bool}{k:Nat} :
  call gl tab n 53 (a53 o) (h53 o t m f sh l b k)=some (gAV t m f sh l,h53 o t m f sh l b k,[]):=by
 obtain⟨d,rfl⟩:=Nat.exists_eq_add_of_le' h
 have e:=eqG o o
 rw[decide_eq_true rfl]at e
 rw[call_gen (fd:=fd53) rfl]
 simp(disch:=((fail_if_success (intro _));omega)) only[go_sem,simprocAttr,↓reduceIte,↓Nat.reduceEqDiff,xx,fd53,m53,e]
theorem gs_set (l:List Gt)(k:Nat)(x:Gt):(gs l).set k (gr x)=gs (l.set k x):=by simp[gs,List.map_set]
abbrev h53' (o:Gt)(t m:Int)(w:Nat)(b:Bool)(k:Nat):Hp:=[(100000,.fix sG (gr o)),(100001,.fix sG (.aggR [i64 t,i64 m,.sl 20000 [] 0 w])),(100002,.fix .sc (.bool b)),(100003,.fix .sc (i64 k))]
theorem put_is (h:1<=n){o x:Gt}{t m:Int}{f:Bool}{l:List Gt}{k:Nat}(hl:l.length<=1000000)(hk:k<l.length)(hx:x≠o) :
  call gl tab n 53 (a53 x) (h53 o t m f sG l true k)=some (.aggR [i64 t,i64 m,.sl 20000 [] 0 l.length],h53' o t m l.length true k,[.grow sG (gs (l.set k x))]):=by
 obtain⟨d,rfl⟩:=Nat.exists_eq_add_of_le' h
 have e:=eqG x o
 rw[decide_eq_false hx]at e
 have hL:=gs_length l
 have hs:=gs_set l k x
 have hg:=gs_at hk
 have n1:=gs_noImms l
 have hlim:l.length<=LIM:=by unfold LIM;omega
 have hT:List.take l.length (gs l)=gs l:=List.take_of_length_le (by omega)
 have hD:List.drop l.length (List.replicate l.length (AV.agg [AV.int IntKind.i64 0,AV.int IntKind.i64 0,AV.int IntKind.i64 0]))=[]:=List.drop_eq_nil_of_le (by simp)
 rw[call_gen (fd:=fd53) rfl]
 simp(disch:=((fail_if_success (intro _));omega)) only[go_sem,simprocAttr,↓reduceIte,↓Nat.reduceEqDiff,xx,fd53,m53,e,hL,hs,hg,n1,List.length_replicate,Nat.min_self,hT,hD,List.append_nil]
def insG (l:List Gt)(k:Nat)(x:Gt):List Gt:=l.take k++x::l.drop k
theorem insG_len {l:List Gt}{k:Nat}(x:Gt)(h:k<=l.length):(insG l k x).length=l.length+1:=by simp[insG];omega
theorem insG_gs (l:List Gt)(k:Nat)(x:Gt):insL (gs l) k (gr x)=gs (insG l k x):=by simp[insL,gs,insG]
theorem insert_at (h:1<=n){l:List Gt}(hl:l.length<=1000000){k:Nat}(hk:k<=l.length)(x:Gt) :
  call gl tab n 54 [.sl 100000 [] 0 l.length,i64 k,.sl 100001 [] 0 1] [(100000,.grow sG (gs l)),(100001,.grow sG [gr x])] =
   some (.sl 20000 [] 0 (l.length+1),[(100000,.dead),(100001,.grow sG [gr x])],[.grow sG (gs (insG l k x))]):=by
 obtain⟨d,rfl⟩:=Nat.exists_eq_add_of_le' h
 rw[call_giv (fd:=fd54) rfl rfl]
 have hlim:l.length+1<=LIM:=by unfold LIM;omega
 have hi:=insG_gs l k x
 simp[insertG,gs_length,Sh.beq,Sh.beqs,hlim,hk,hi]
theorem put_no (h:2<=n){o x:Gt}{t m:Int}{f:Bool}{sh:Sh}{l:List Gt}{k:Nat}(hm:Mg l sh)(hl:l.length<=1000000)(hk:k<=l.length)(hx:x≠o) :
  call gl tab n 53 (a53 x) (h53 o t m f sh l false k)=some (.aggR [i64 t,i64 m,.sl 20000 [] 0 (l.length+1)],h53' o t m (l.length+1) false k,[.grow sG (gs (insG l k x))]):=by
 obtain⟨d,rfl⟩:=Nat.exists_eq_add_of_le' h
 have e:=eqG x o
 rw[decide_eq_false hx]at e
 have hL:=gs_length l
 have c:=@insert_at gl (d+1) (by omega) l hl k hk x
 have n1:=gs_noImms (insG l k x)
 have n2:=gs_noImms l
 have hlim:l.length<=LIM:=by unfold LIM;omega
 have hT:List.take l.length (gs l)=gs l:=List.take_of_length_le (by omega)
 have hD:List.drop l.length (List.replicate l.length (AV.agg [AV.int IntKind.i64 0,AV.int IntKind.i64 0,AV.int IntKind.i64 0]))=[]:=List.drop_eq_nil_of_le (by simp)
 rw[call_gen (fd:=fd53) rfl]
 rcases hm with rfl|rfl
 . obtain rfl:k=0:=by simpa using hk
   replace c:call gl tab (d+1) 54 [.sl 100000 [] 0 0,i64 0,.sl 100001 [] 0 1] [(100000,.grow sG []),(100001,.grow sG [gr x])]=_:=c
   simp(disch:=((fail_if_success (intro _));omega)) only[go_sem,simprocAttr,↓reduceIte,↓Nat.reduceEqDiff,xx,fd53,m53,e,c,n1,List.length_nil,show gs []=[]from rfl,Nat.min_self,List.take_nil,List.drop_nil,List.append_nil]
   rfl
 . simp(disch:=((fail_if_success (intro _));omega)) only[go_sem,simprocAttr,↓reduceIte,↓Nat.reduceEqDiff,xx,fd53,m53,e,hL,c,n1,n2,List.length_replicate,Nat.min_self,hT,hD,List.append_nil]
end Go.Proofs.S30.G
