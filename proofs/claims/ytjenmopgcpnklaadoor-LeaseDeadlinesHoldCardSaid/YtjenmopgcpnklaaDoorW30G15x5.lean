/-
  Chapter 30: granting, with a later end. No condition.
-/
import Derived.Test.YtjenmopgcpnklaaDoorW30G14x5
set_option linter.unusedVariables false
set_option linter.unusedSimpArgs false
set_option linter.unusedSectionVars false
namespace Go.Proofs.S30.G
open Go Go.Ev Go.Proofs
open Go.Proofs.S30.H (GlK GlR)
variable {gl :Gl} {n:Nat}
section
variable {t m:Int} {f:Bool} {sh:Sh} {l:List Gt} {a lo hi len:Int} {k:Ky}
theorem grant_new [Nonempty (GlK gl)](h:12<=n)(hm:Mg l sh)(hl:l.length<=1000)(ok:GOk t m l a k lo hi len)(g1:t<=(findG l a).h)(g2:lo+len<=1099511627776)(g3:(findG l a).u<lo+len) :
  call gl tab n 11 [gAV t m f sh l,ky k,i64 a,.agg [i64 lo,i64 hi],i64 len] [] =
   some (.tup [nG t m (putL l ⟨a,(findG l a).h,lo+len⟩),leAV (leG k a t (lo+len)),i64 0],[],[]):=by
 obtain⟨d,rfl⟩:=Nat.exists_eq_add_of_le' h
 have c:=@valid_at gl (d+11) (by omega) t m f sh l hm (by omega)
 have c2:=@isite_at gl (d+11) (by omega) a
 have c3:=@cvalid_at gl (d+11) (by omega) lo hi
 have c4:=@S30.valid_at gl (d+11) (by omega) k (by have:=ok.kv.k;omega)
 rw[decide_eq_true ok.v]at c
 rw[ok.s]at c2
 rw[decide_eq_true ok.c]at c3
 rw[decide_eq_true ok.kv]at c4
 have h3:(k.p != 1)=false:=by rw[ok.kp];rfl
 obtain⟨b,j,c5,c7⟩:=@site_at gl (d+11) (by omega) t m f sh l ok.v hm (by omega) a
 have n1:=ok.n1
 have n2:=ok.n2
 have n3:=ok.v.2.2
 have n4:=ok.c
 unfold CV at n4
 have hle:=leG_ok ok.s ok.v (lo+len) (by omega)
 have c6:=@leS_at gl (d+11) _ (by omega) k ok.kv.ok _ hle
 have q1:(leG k a t (lo+len)).sgn.length=16:=(leS_ok ok.kv.ok hle).s
 have q2:=H.bytes_all (leG k a t (lo+len)).sgn
 rw[show leS k ⟨a,t,lo+len,0,zB⟩=leG k a t (lo+len)from rfl]at c6
 obtain⟨w,hw,w1,w2,w3⟩:=max_ex (findG l a).u (lo+len)
 obtain rfl:w=lo+len:=by omega
 have es:=findG_s l a
 have c7:=c7 (n':=d+11) ⟨a,(findG l a).h,lo+len⟩ (by omega) rfl (fun he=>by rw[<-he]at g3;simp at g3)
 have hL:=gs_length (putL l ⟨a,(findG l a).h,lo+len⟩)
 have hT:List.take (putL l ⟨a,(findG l a).h,lo+len⟩).length (gs (putL l ⟨a,(findG l a).h,lo+len⟩))=gs (putL l ⟨a,(findG l a).h,lo+len⟩):=List.take_of_length_le (by omega)
 have m1:=gs_noImms (putL l ⟨a,(findG l a).h,lo+len⟩)
 simp only[leAV,bAV,zB_av]at c6 ⊢
 generalize leG k a t (lo+len)=le at *
 generalize putL l ⟨a,(findG l a).h,lo+len⟩=q at *
 generalize findG l a=o at *
 obtain⟨os,oh,ou⟩:=o
 obtain rfl:os=a:=es
 simp only at *
 clear hle
 rw[call_go (fd:=fd11) rfl]
 simp(maxSteps:=1000000) (implicitDefEqProofs:=false) (disch:=((fail_if_success (intro _));omega)) only[go_sem,simprocAttr,↓reduceIte,↓Nat.reduceEqDiff,xx,fd11,m11,↓out16_eq,H.out16_len,H.out16_all,H.out16_pl,c,c2,c3,c4,c5,h3,hw,c6,c7,q1,q2,hL,hT,m1]
end
end Go.Proofs.S30.G
namespace Go.Proofs.S30.G
open Go Go.Ev Go.Proofs
variable {gl :Gl} {n:Nat}
def keep (e:Int)(x:Gt):Bool:=decide (x.h<e)
def kp (e:Int)(l:List Gt)(j:Nat):List Gt:=(l.take j).filter (keep e)
theorem kp_le (e:Int)(l:List Gt)(j:Nat):(kp e l j).length<=j:=by
 have:=List.length_filter_le (keep e) (l.take j)
 rw[kp];rw[List.length_take]at this;omega
theorem kp_succ (e:Int){l:List Gt}{j:Nat}(h:j<l.length):kp e l (j+1)=if(gat l j).h<e then kp e l j++[gat l j]else kp e l j:=by
 rw[kp,List.take_succ_eq_append_getElem h,List.filter_append,<-gat_eq h]
 by_cases hk:(gat l j).h<e
 . rw[if_pos hk];simp[kp,keep,hk]
 . rw[if_neg hk];simp[kp,keep,hk]
def wK (e:Int)(l:List Gt)(j:Nat):List Gt:=kp e l j++l.drop (kp e l j).length
theorem wK_len (e:Int){l:List Gt}{j:Nat}(h:j<=l.length):(wK e l j).length=l.length:=by
 have:=kp_le e l j
 rw[wK,List.length_append,List.length_drop];omega
theorem wK_at (e:Int){l:List Gt}{j:Nat}(h:j<l.length):gat (wK e l j) j=gat l j:=by
 have:=kp_le e l j
 rw[gat,wK,List.getD_eq_getElem?_getD,List.getElem?_append_right this,List.getElem?_drop,gat,List.getD_eq_getElem?_getD]
 congr 2;omega
theorem wK_set (e:Int){l:List Gt}{j:Nat}(h:j<l.length)(hk:(gat l j).h<e):(wK e l j).set (kp e l j).length (gat l j)=wK e l (j+1):=by
 have:=kp_le e l j
 rw[wK,wK,kp_succ e h,if_pos hk,List.set_append_right _ _ (Nat.le_refl _),Nat.sub_self,List.drop_eq_getElem_cons (by omega),List.set_cons_zero,List.append_assoc,List.length_append];rfl
theorem deaf_f (h:1<=n)(x:Gt)(e:Int):call gl tab n 59 [gr x,.ptr 100000 []] [(100000,.fix .sc (i64 e))]=some (.bool (decide (e<=x.h)),[(100000,.fix .sc (i64 e))],[]):=by
 obtain⟨d,rfl⟩:=Nat.exists_eq_add_of_le' h
 rw[call_gen (fd:=fd59) rfl]
 by_cases h1:e<=x.h
 . rw[decide_eq_true h1];simp(disch:=((fail_if_success (intro _));omega)) only[go_sem,simprocAttr,↓reduceIte,↓Nat.reduceEqDiff,xx,fd59,m59]
 . rw[decide_eq_false h1];simp(disch:=((fail_if_success (intro _));omega)) only[go_sem,simprocAttr,↓reduceIte,↓Nat.reduceEqDiff,xx,fd59,m59]
abbrev hK (e:Int)(w:List Gt):Hp:=[(100000,.grow sG (gs w)),(100001,.fix .sc (i64 e))]
def L71 :MC:=match m71 with| .seq _ (.seq (.seq _ (.block _ (.loop _ b))) _)=>b|_=>.skip
def S71 (e:Int)(l:List Gt)(i:Nat):St:=⟨[.set 8 (i64 i),.set 7 (i64 l.length),.set 1 (.fn 59 [.ptr 100001 []]),.set 0 (.sl 100000 [] 0 l.length)],[(100001,.fix .sc (i64 e)),(100000,.grow sG (gs l))]⟩
theorem step71 {d:Nat}{e:Int}{l:List Gt}(hl:l.length<=1000000)(i:Nat)(hi:i<l.length)(hk:(gat l i).h<e) :
  contK [.slot 0,.slot 1,.slot 7,.slot 8] (evC gl (call gl tab (d+1)) L71 (S71 e l i))=some (S71 e l (i+1)):=by
 have hL:=gs_length l
 have hx:=gs_at hi
 have c:=@deaf_f gl (d+1) (by omega) (gat l i) e
 rw[decide_eq_false (by omega)]at c
 rw[S71,S71]
 generalize gat l i=x at *
 simp(disch:=((fail_if_success (intro _));omega)) only[go_sem,simprocAttr,↓reduceIte,↓Nat.reduceEqDiff,xx,L71,m71,hL,hx,c]
theorem index_at (h:2<=n){e:Int}{l:List Gt}(hl:l.length<=1000000) :
  (∀i,i<l.length->(gat l i).h<e)/\call gl tab n 71 [.sl 100000 [] 0 l.length,.fn 59 [.ptr 100001 []]] (hK e l)=some (i64 (-1),hK e l,[]) \/
  ∃q,q<l.length/\(∀i,i<q->(gat l i).h<e)/\e<=(gat l q).h/\call gl tab n 71 [.sl 100000 [] 0 l.length,.fn 59 [.ptr 100001 []]] (hK e l)=some (i64 q,hK e l,[]):=by
 obtain⟨d,rfl⟩:=Nat.exists_eq_add_of_le' h
 have hL:=gs_length l
 rcases first_fail (fun i=>(gat l i).h<e) l.length with ha|⟨q,hq,hb,he⟩
 . refine .inl ⟨ha,?_⟩
   have st:=fun i hi=>step71 (gl:=gl) (d:=d) hl i hi (ha i hi)
   simp only[L71,m71]at st
   rw[call_gen (fd:=fd71) rfl]
   simp(disch:=((fail_if_success (intro _));omega)) only[go_sem,simprocAttr,↓reduceIte,↓Nat.reduceEqDiff,xx,fd71,m71,hL]
   rw[iter_to (S71 e l) l.length (by unfold LF;omega)]
   . rw[S71];simp(disch:=((fail_if_success (intro _));omega)) only[go_sem,simprocAttr,↓reduceIte,↓Nat.reduceEqDiff,xx,hL]
   . rw[S71];simp(disch:=((fail_if_success (intro _));omega)) only[go_sem,simprocAttr,↓reduceIte,↓Nat.reduceEqDiff,xx,hL]
   . exact st
   . rw[S71];simp(disch:=((fail_if_success (intro _));omega)) only[go_sem,simprocAttr,↓reduceIte,↓Nat.reduceEqDiff,xx,hL]
 . refine .inr ⟨q,hq,hb,by omega,?_⟩
   have st:=fun i (hi:i<q)=>step71 (gl:=gl) (d:=d) hl i (by omega) (hb i hi)
   have hx:=gs_at hq
   have c:=@deaf_f gl (d+1) (by omega) (gat l q) e
   rw[decide_eq_true (by omega)]at c
   simp only[L71,m71]at st
   rw[call_gen (fd:=fd71) rfl]
   simp(disch:=((fail_if_success (intro _));omega)) only[go_sem,simprocAttr,↓reduceIte,↓Nat.reduceEqDiff,xx,fd71,m71,hL]
   rw[iter_to (S71 e l) q (by unfold LF;omega)]
   . rw[S71]
     generalize gat l q=x at *
     simp(disch:=((fail_if_success (intro _));omega)) only[go_sem,simprocAttr,↓reduceIte,↓Nat.reduceEqDiff,xx,hL,hx,c]
   . rw[S71];simp(disch:=((fail_if_success (intro _));omega)) only[go_sem,simprocAttr,↓reduceIte,↓Nat.reduceEqDiff,xx,hL]
   . exact st
   . rw[S71]
     generalize gat l q=x at *
     simp(disch:=((fail_if_success (intro _));omega)) only[go_sem,simprocAttr,↓reduceIte,↓Nat.reduceEqDiff,xx,hL,hx,c]
def L57 :MC:=match m57 with| .seq _ (.seq _ (.seq _ (.seq (.seq _ (.block _ (.loop _ b))) _)))=>b|_=>.skip
def S57 (e:Int)(l:List Gt)(j:Nat):St:=⟨[.set 6 (i64 j),.set 5 (i64 (kp e l j).length),.set 1 (.fn 59 [.ptr 100001 []]),.set 0 (.sl 100000 [] 0 l.length)],[(100001,.fix .sc (i64 e)),(100000,.grow sG (gs (wK e l j)))]⟩
theorem step57 {d:Nat}{e:Int}{l:List Gt}(hl:l.length<=1000000)(j:Nat)(hj:j<l.length) :
  contK [.slot 0,.slot 1,.slot 5,.slot 6] (evC gl (call gl tab (d+1)) L57 (S57 e l j))=some (S57 e l (j+1)):=by
 have hw:=wK_len e (show j<=l.length by omega)
 have hL:=gs_length (wK e l j)
 rw[hw]at hL
 have hx:=gs_at (l:=wK e l j) (show j<(wK e l j).length by omega)
 rw[wK_at e hj]at hx
 have hle:=kp_le e l j
 have hg:=gs_at (l:=wK e l j) (show(kp e l j).length<(wK e l j).length by omega)
 have c:=@deaf_f gl (d+1) (by omega) (gat l j) e
 rw[S57,S57,kp_succ e hj]
 by_cases hk:(gat l j).h<e
 . rw[decide_eq_false (by omega)]at c
   have hs:=gs_set (wK e l j) (kp e l j).length (gat l j)
   rw[wK_set e hj hk]at hs
   rw[if_pos hk,List.length_append,List.length_singleton]
   generalize wK e l (j+1)=w2 at *
   generalize wK e l j=w at *
   generalize (kp e l j).length=i at *
   generalize gat l j=x at *
   simp(disch:=((fail_if_success (intro _));omega)) only[go_sem,simprocAttr,↓reduceIte,↓Nat.reduceEqDiff,xx,L57,m57,hL,hx,hg,c,hs]
 . rw[decide_eq_true (by omega)]at c
   have e2:wK e l (j+1)=wK e l j:=by rw[wK,wK,kp_succ e hj,if_neg hk]
   rw[if_neg hk,e2]
   generalize wK e l j=w at *
   generalize (kp e l j).length=i at *
   generalize gat l j=x at *
   simp(disch:=((fail_if_success (intro _));omega)) only[go_sem,simprocAttr,↓reduceIte,↓Nat.reduceEqDiff,xx,L57,m57,hL,hx,c]
theorem kp_all {e:Int}{l:List Gt}(h:∀i,i<l.length->(gat l i).h<e):∀j,j<=l.length->kp e l j=l.take j
 | 0,_=>by rw[kp,List.take_zero];rfl
 | j+1,hj=>by rw[kp_succ e (by omega),if_pos (h j (by omega)),kp_all h j (by omega),List.take_succ_eq_append_getElem (by omega),<-gat_eq (by omega)]
theorem kp_pre {e:Int}{l:List Gt}{q:Nat}(h:∀i,i<q->(gat l i).h<e):∀j,j<=q->q<=l.length->kp e l j=l.take j
 | 0,_,_=>by rw[kp,List.take_zero];rfl
 | j+1,hj,hq=>by rw[kp_succ e (by omega),if_pos (h j (by omega)),kp_pre h j (by omega) hq,List.take_succ_eq_append_getElem (by omega),<-gat_eq (by omega)]
abbrev zGt :AV:=.agg [.int .i64 0,.int .i64 0,.int .i64 0]
def XK (e:Int)(l:List Gt):List AV:=gs (kp e l l.length)++List.replicate (l.length-(kp e l l.length).length) zGt
theorem XK_len (e:Int)(l:List Gt):(XK e l).length=l.length:=by
 have:=kp_le e l l.length
 rw[XK,List.length_append,gs_length,List.length_replicate];omega
theorem XK_take (e:Int)(l:List Gt):List.take (kp e l l.length).length (XK e l)=gs (kp e l l.length):=by
 rw[XK,<-gs_length (kp e l l.length),List.take_left]
theorem XK_eq (e:Int)(l:List Gt):List.take (kp e l l.length).length (gs (wK e l l.length))++List.replicate (l.length-(kp e l l.length).length) zGt++List.drop ((kp e l l.length).length+(l.length-(kp e l l.length).length)) (gs (wK e l l.length))=XK e l:=by
 have h:=kp_le e l l.length
 have hw:=wK_len e (Nat.le_refl l.length)
 rw[show(kp e l l.length).length+(l.length-(kp e l l.length).length)=l.length by omega,List.drop_eq_nil_of_le (by rw[gs_length,hw];exact Nat.le_refl _),List.append_nil,XK]
 congr 1
 rw[wK,gs,List.map_append]
 show List.take (kp e l l.length).length (gs (kp e l l.length)++_)=_
 rw[<-gs_length (kp e l l.length),List.take_left]
theorem delete_at (h:3<=n){e:Int}{l:List Gt}(hl:l.length<=1000000) :
  ∃X,X.length=l.length/\List.take (kp e l l.length).length X=gs (kp e l l.length) /\
   call gl tab n 57 [.sl 100000 [] 0 l.length,.fn 59 [.ptr 100001 []]] (hK e l)=some (.sl 100000 [] 0 (kp e l l.length).length,[(100000,.grow sG X),(100001,.fix .sc (i64 e))],[]):=by
 obtain⟨d,rfl⟩:=Nat.exists_eq_add_of_le' h
 have hL:=gs_length l
 rcases index_at (gl:=gl) (n:=d+2) (by omega) (e:=e) hl with ⟨ha,c⟩|⟨q,hq,hb,he,c⟩
 . have e1:kp e l l.length=l:=by rw[kp_all ha _ (Nat.le_refl _),List.take_length]
   rw[e1]
   refine⟨gs l,hL,List.take_of_length_le (by omega),?_⟩
   rw[call_gen (fd:=fd57) rfl]
   simp(disch:=((fail_if_success (intro _));omega)) only[go_sem,simprocAttr,↓reduceIte,↓Nat.reduceEqDiff,xx,fd57,m57,hL,c]
 . refine⟨XK e l,XK_len e l,XK_take e l,?_⟩
   have st:=fun i (hi:i<l.length-(q+1))=>step57 (gl:=gl) (d:=d+1) (e:=e) hl (q+1+i) (by omega)
   have e1:kp e l (q+1)=l.take q:=by rw[kp_succ e hq,if_neg (by omega),kp_pre hb q (Nat.le_refl _) (by omega)]
   have e2:(l.take q).length=q:=by rw[List.length_take];omega
   have e3:wK e l (q+1)=l:=by rw[wK,e1,e2,List.take_append_drop]
   have e4:q+1+(l.length-(q+1))=l.length:=by omega
   have hw:=gs_length (wK e l l.length)
   rw[wK_len e (Nat.le_refl l.length)]at hw
   have hX:=XK_eq e l
   have hle:=kp_le e l l.length
   simp only[L57,m57]at st
   rw[call_gen (fd:=fd57) rfl]
   simp(disch:=((fail_if_success (intro _));omega)) only[go_sem,simprocAttr,↓reduceIte,↓Nat.reduceEqDiff,xx,fd57,m57,hL,c]
   rw[iter_to (fun i=>S57 e l (q+1+i)) (l.length-(q+1)) (by unfold LF;omega)]
   . simp only[e4]
     rw[S57]
     generalize gs (wK e l l.length)=w at *
     generalize XK e l=X at *
     generalize (kp e l l.length).length=k at *
     simp(disch:=((fail_if_success (intro _));omega)) only[go_sem,simprocAttr,↓reduceIte,↓Nat.reduceEqDiff,xx,hL,hw,hX,Nat.sub_zero]
   . simp only[Nat.add_zero]
     rw[S57,e1,e2,e3];simp(disch:=((fail_if_success (intro _));omega)) only[go_sem,simprocAttr,↓reduceIte,↓Nat.reduceEqDiff,xx,hL]
   . exact st
   . simp only[e4]
     rw[S57]
     generalize gs (wK e l l.length)=w at *
     simp(disch:=((fail_if_success (intro _));omega)) only[go_sem,simprocAttr,↓reduceIte,↓Nat.reduceEqDiff,xx,hL,hw]
theorem clone_at (h:1<=n){f:Bool}{m:Sh}{l:List Gt}(hm:Mg l m)(hl:l.length<=1000000):call gl tab n 58 [.lst f m (gs l)] []=some (.sl 20000 [] 0 l.length,[],[.grow sG (gs l)]):=by
 obtain⟨d,rfl⟩:=Nat.exists_eq_add_of_le' h
 rw[call_giv (fd:=fd58) rfl rfl]
 have h1:l.length<=LIM:=by unfold LIM;omega
 rcases hm with rfl|rfl
 . simp[cloneG,gs]
 . simp[cloneG,gs_length,h1,Sh.beq,Sh.beqs]
section
variable {t m:Int} {f:Bool} {sh:Sh} {l:List Gt} {e:Int}
def df (e:Int)(l:List Gt):List Gt:=l.filter (keep e)
theorem kp_df (e:Int)(l:List Gt):kp e l l.length=df e l:=by rw[kp,List.take_length];rfl
theorem deaf_bad (h:3<=n)(hm:Mg l sh)(hl:l.length<=1000000)(hb:¬(VG t m l/\1<=e/\e<=t)):call gl tab n 37 [gAV t m f sh l,i64 e] []=some (.tup [.lst true .sc [],i64 1],[],[]):=by
 obtain⟨d,rfl⟩:=Nat.exists_eq_add_of_le' h
 have c:=@valid_at gl (d+2) (by omega) t m f sh l hm hl
 rw[call_go (fd:=fd37) rfl]
 by_cases hv:VG t m l
 case neg=>rw[decide_eq_false hv]at c;simp(disch:=((fail_if_success (intro _));omega)) only[go_sem,simprocAttr,↓reduceIte,↓Nat.reduceEqDiff,xx,fd37,m37,c]
 rw[decide_eq_true hv]at c
 by_cases h1:1<=e
 case neg=>simp(disch:=((fail_if_success (intro _));omega)) only[go_sem,simprocAttr,↓reduceIte,↓Nat.reduceEqDiff,xx,fd37,m37,c]
 have h2:¬e<=t:=fun h=>hb ⟨hv,h1,h⟩
 simp(disch:=((fail_if_success (intro _));omega)) only[go_sem,simprocAttr,↓reduceIte,↓Nat.reduceEqDiff,xx,fd37,m37,c]
theorem deaf_ok (h:4<=n)(hm:Mg l sh)(hl:l.length<=1000000)(hv:VG t m l)(h1:1<=e)(h2:e<=t):call gl tab n 37 [gAV t m f sh l,i64 e] []=some (.tup [.lst false sG (gs (df e l)),i64 0],[],[]):=by
 obtain⟨d,rfl⟩:=Nat.exists_eq_add_of_le' h
 have c:=@valid_at gl (d+3) (by omega) t m f sh l hm hl
 rw[decide_eq_true hv]at c
 have c2:=fun f'=>@clone_at gl (d+3) (by omega) f' sh l hm hl
 obtain⟨X,x1,x2,c3⟩:=@delete_at gl (d+3) (by omega) e l hl
 have hle:=kp_le e l l.length
 have n1:=gs_noImms (df e l)
 rw[kp_df]at x2 c3 hle
 rw[call_go (fd:=fd37) rfl]
 simp(disch:=((fail_if_success (intro _));omega)) only[go_sem,simprocAttr,↓reduceIte,↓Nat.reduceEqDiff,xx,fd37,m37,c,c2,c3,x1,x2,n1]
end
end Go.Proofs.S30.G
