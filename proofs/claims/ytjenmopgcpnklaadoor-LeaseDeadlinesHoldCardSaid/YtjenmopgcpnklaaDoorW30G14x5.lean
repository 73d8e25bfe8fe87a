/-
  Chapter 30: sites in lists, in plain terms. No condition.
-/
import Derived.Test.YtjenmopgcpnklaaDoorW30G13x5
set_option linter.unusedVariables false
set_option linter.unusedSimpArgs false
set_option linter.unusedSectionVars false
namespace Go.Proofs.S30.G
open Go Go.Ev Go.Proofs
variable {gl :Gl} {n:Nat}
def findG :List Gt->Int->Gt
 | [],a=>⟨a,0,0⟩
 | y::l,a=>if y.s=a then y else findG l a
def putL :List Gt->Gt->List Gt
 | [],x=>[x]
 | y::l,x=>if x.s<y.s then x::y::l else if x.s=y.s then x::l else y::putL l x
theorem Pos.tail {y:Gt}{l:List Gt}{a:Int}{k:Nat}(h:Pos (y::l) a (k+1)):Pos l a k/\y.s<a :=
 ⟨⟨by have:=h.le;simp at this;omega,fun j hj=>h.lo (j+1) (by omega),fun j hj hj2=>h.hi (j+1) (by omega) (by simp;omega)⟩,h.lo 0 (by omega)⟩
theorem findG_is :∀{l:List Gt} {a:Int} {k:Nat},Pos l a k->k<l.length->(gat l k).s=a->findG l a=gat l k
 | [],a,k,h,hk,hs=>by simp at hk
 | y::l,a,0,h,hk,hs=>by
   have hs:y.s=a:=hs
   rw[findG,if_pos hs];rfl
 | y::l,a,k+1,h,hk,hs=>by
   obtain⟨h1,h2⟩:=h.tail
   rw[findG,if_neg (by omega)]
   exact findG_is h1 (by simp at hk;omega) hs
theorem findG_no :∀{l:List Gt} {a:Int},(∀j,j<l.length->(gat l j).s≠a)->findG l a=⟨a,0,0⟩
 | [],a,h=>rfl
 | y::l,a,h=>by
   have h0:y.s≠a:=h 0 (by simp)
   rw[findG,if_neg h0]
   exact findG_no fun j hj=>h (j+1) (by simp;omega)
theorem Pos.none {t m:Int}{l:List Gt}(hv:VG t m l){a:Int}{k:Nat}(h:Pos l a k)(hn:¬(k<l.length/\(gat l k).s=a)):∀j,j<l.length->(gat l j).s≠a:=fun j hj he=>by
 by_cases h1:j<k
 . have:=h.lo j h1;omega
 . by_cases h2:j=k
   . subst h2;exact hn ⟨hj,he⟩
   . have h3:=hv.mono j k (by omega) hj
     have:=h.hi k (Nat.le_refl _) (by omega);omega
theorem set_putL :∀{l:List Gt} {x:Gt} {k:Nat},Pos l x.s k->k<l.length->(gat l k).s=x.s->l.set k x=putL l x
 | [],x,k,h,hk,hs=>by simp at hk
 | y::l,x,0,h,hk,hs=>by
   have hs:y.s=x.s:=hs
   rw[putL,if_neg (by omega),if_pos hs.symm];rfl
 | y::l,x,k+1,h,hk,hs=>by
   obtain⟨h1,h2⟩:=h.tail
   rw[putL,if_neg (by omega),if_neg (by omega),List.set_cons_succ,set_putL h1 (by simp at hk;omega) hs]
theorem ins_putL :∀{l:List Gt} {x:Gt} {k:Nat},Pos l x.s k->(∀j,j<l.length->(gat l j).s≠x.s)->insG l k x=putL l x
 | [],x,k,h,hn=>by
   have:=h.le
   obtain rfl:k=0:=by simpa using this
   rfl
 | y::l,x,0,h,hn=>by
   have h1:=h.hi 0 (Nat.le_refl _) (by simp)
   have h2:y.s≠x.s:=hn 0 (by simp)
   have h1:x.s<=y.s:=h1
   rw[putL,if_pos (by omega)];rfl
 | y::l,x,k+1,h,hn=>by
   obtain⟨h1,h2⟩:=h.tail
   rw[putL,if_neg (by omega),if_neg (by omega),<-ins_putL h1 fun j hj=>hn (j+1) (by simp;omega)];rfl
theorem findG_s :∀(l:List Gt) (a:Int),(findG l a).s=a
 | [],a=>rfl
 | y::l,a=>by
   rw[findG]
   by_cases h:y.s=a
   . rw[if_pos h];exact h
   . rw[if_neg h];exact findG_s l a
theorem site_at (h:5<=n){t m:Int}{f:Bool}{sh:Sh}{l:List Gt}(hv:VG t m l)(hm:Mg l sh)(hl:l.length<=1000000)(a:Int) :
  ∃b k,call gl tab n 34 [gAV t m f sh l,i64 a] []=some (.tup [gr (findG l a),fn53],[],o34 (findG l a) t m f sh l b k) /\
   ∀{n':Nat} (x:Gt),2<=n'->x.s=a->x≠findG l a ->
    call gl tab n' 53 (a53 x) (h53 (findG l a) t m f sh l b k)=some (.aggR [i64 t,i64 m,.sl 20000 [] 0 (putL l x).length],h53' (findG l a) t m (putL l x).length b k,[.grow sG (gs (putL l x))]):=by
 obtain⟨k,hp,c⟩:=@search_at gl (n-1) (by omega) t m f sh l hv hm hl a
 by_cases hk:k<l.length/\(gat l k).s=a
 . rw[decide_eq_true hk]at c
   obtain rfl:=hm.of hk.1
   have e:=findG_is hp hk.1 hk.2
   rw[e]
   refine⟨true,k,site_is h hk.1 c,fun{n'} x hn hx hne=> ?_⟩
   subst hx
   have:=@put_is gl n' (by omega) (gat l k) x t m f l k hl hk.1 hne
   rw[set_putL hp hk.1 hk.2]at this
   rw[this,<-set_putL hp hk.1 hk.2,List.length_set]
 . rw[decide_eq_false hk]at c
   have hno:=hp.none hv hk
   rw[findG_no hno]
   refine⟨false,k,site_no h c,fun{n'} x hn hx hne=> ?_⟩
   subst hx
   have:=@put_no gl n' hn ⟨x.s,0,0⟩ x t m f sh l k hm hl hp.le hne
   rw[ins_putL hp hno]at this
   rw[this,<-ins_putL hp hno,insG_len x hp.le]
end Go.Proofs.S30.G
namespace Go.Proofs.S30.G
open Go Go.Ev Go.Proofs
variable {gl :Gl} {n:Nat}
abbrev zG :AV:=.agg [i64 0,i64 0,.lst true .sc []]
abbrev nG (t m:Int)(l:List Gt):AV:=.agg [i64 t,i64 m,.lst false sG (gs l)]
theorem new_at (h:3<=n)(m:Int):call gl tab n 8 [i64 m] []=some (if 1<=m/\m<=3600000 then .tup [.agg [i64 0,i64 m,.lst true .sc []],i64 0]else .tup [zG,i64 1],[],[]):=by
 obtain⟨d,rfl⟩:=Nat.exists_eq_add_of_le' h
 have c:=@valid_at gl (d+2) (by omega) 0 m true .sc [] (.inl rfl) (by simp)
 replace c:call gl tab (d+2) 20 [.agg [i64 0,i64 m,.lst true .sc []]] []=_:=c
 rw[call_go (fd:=fd8) rfl]
 by_cases h1:1<=m/\m<=3600000
 . rw[decide_eq_true (show VG 0 m []from⟨fun i hi=>by simp at hi,by omega,h1⟩)]at c
   rw[if_pos h1]
   simp(disch:=((fail_if_success (intro _));omega)) only[go_sem,simprocAttr,↓reduceIte,↓Nat.reduceEqDiff,xx,fd8,m8,c]
 . rw[decide_eq_false (fun h:VG 0 m []=>h1 h.2.2)]at c
   rw[if_neg h1]
   simp(disch:=((fail_if_success (intro _));omega)) only[go_sem,simprocAttr,↓reduceIte,↓Nat.reduceEqDiff,xx,fd8,m8,c]
section
variable {t m:Int} {f:Bool} {sh:Sh} {l:List Gt}
theorem issue_bad (h:3<=n)(hm:Mg l sh)(hl:l.length<=1000000)(hv:¬VG t m l):call gl tab n 9 [gAV t m f sh l] []=some (.tup [zG,i64 1],[],[]):=by
 obtain⟨d,rfl⟩:=Nat.exists_eq_add_of_le' h
 have c:=@valid_at gl (d+2) (by omega) t m f sh l hm hl
 rw[decide_eq_false hv]at c
 rw[call_go (fd:=fd9) rfl]
 simp(disch:=((fail_if_success (intro _));omega)) only[go_sem,simprocAttr,↓reduceIte,↓Nat.reduceEqDiff,xx,fd9,m9,c]
theorem issue_lim (h:3<=n)(hm:Mg l sh)(hl:l.length<=1000000)(hv:VG t m l)(ht:t=1099511627776):call gl tab n 9 [gAV t m f sh l] []=some (.tup [zG,i64 2],[],[]):=by
 obtain⟨d,rfl⟩:=Nat.exists_eq_add_of_le' h
 have c:=@valid_at gl (d+2) (by omega) t m f sh l hm hl
 rw[decide_eq_true hv]at c
 rw[call_go (fd:=fd9) rfl]
 simp(disch:=((fail_if_success (intro _));omega)) only[go_sem,simprocAttr,↓reduceIte,↓Nat.reduceEqDiff,xx,fd9,m9,c]
theorem issue_ok (h:3<=n)(hm:Mg l sh)(hl:l.length<=1000000)(hv:VG t m l)(ht:t≠1099511627776):call gl tab n 9 [gAV t m f sh l] []=some (.tup [gAV (t+1) m f sh l,i64 0],[],[]):=by
 obtain⟨d,rfl⟩:=Nat.exists_eq_add_of_le' h
 have c:=@valid_at gl (d+2) (by omega) t m f sh l hm hl
 rw[decide_eq_true hv]at c
 have:=hv.2.1
 have hb:(t==1099511627776)=false:=by rw[beq_eq_false_iff_ne];exact ht
 rw[call_go (fd:=fd9) rfl]
 simp(disch:=((fail_if_success (intro _));omega)) only[go_sem,simprocAttr,↓reduceIte,↓Nat.reduceEqDiff,xx,fd9,m9,c,hb]
theorem confirm_bad (h:3<=n)(hm:Mg l sh)(hl:l.length<=1000000){a e:Int}(hb:¬(VG t m l/\isSite a=true/\0<=e/\e<=t)):call gl tab n 10 [gAV t m f sh l,i64 a,i64 e] []=some (.tup [zG,i64 1],[],[]):=by
 obtain⟨d,rfl⟩:=Nat.exists_eq_add_of_le' h
 have c:=@valid_at gl (d+2) (by omega) t m f sh l hm hl
 have c2:=@isite_at gl (d+2) (by omega) a
 rw[call_go (fd:=fd10) rfl]
 by_cases hv:VG t m l
 case neg=>rw[decide_eq_false hv]at c;simp(disch:=((fail_if_success (intro _));omega)) only[go_sem,simprocAttr,↓reduceIte,↓Nat.reduceEqDiff,xx,fd10,m10,c]
 rw[decide_eq_true hv]at c
 by_cases hs:isSite a=true
 case neg=>rw[Bool.not_eq_true]at hs;rw[hs]at c2;simp(disch:=((fail_if_success (intro _));omega)) only[go_sem,simprocAttr,↓reduceIte,↓Nat.reduceEqDiff,xx,fd10,m10,c,c2]
 rw[hs]at c2
 by_cases h1:0<=e
 case neg=>simp(disch:=((fail_if_success (intro _));omega)) only[go_sem,simprocAttr,↓reduceIte,↓Nat.reduceEqDiff,xx,fd10,m10,c,c2]
 have h2:¬e<=t:=fun h=>hb ⟨hv,hs,h1,h⟩
 simp(disch:=((fail_if_success (intro _));omega)) only[go_sem,simprocAttr,↓reduceIte,↓Nat.reduceEqDiff,xx,fd10,m10,c,c2]
theorem confirm_old (h:6<=n)(hm:Mg l sh)(hl:l.length<=1000000){a e:Int}(hv:VG t m l)(hs:isSite a=true)(h1:0<=e)(h2:e<=t)(h3:e<=(findG l a).h) :
  call gl tab n 10 [gAV t m f sh l,i64 a,i64 e] []=some (.tup [gAV t m f sh l,i64 0],[],[]):=by
 obtain⟨d,rfl⟩:=Nat.exists_eq_add_of_le' h
 have c:=@valid_at gl (d+5) (by omega) t m f sh l hm hl
 have c2:=@isite_at gl (d+5) (by omega) a
 rw[decide_eq_true hv]at c
 rw[hs]at c2
 obtain⟨b,k,c3,_⟩:=@site_at gl (d+5) (by omega) t m f sh l hv hm hl a
 obtain⟨w,hw,w1,w2,w3⟩:=max_ex (findG l a).h e
 obtain rfl:w=(findG l a).h:=by omega
 have c4:=@put_same gl (d+5) (by omega) (findG l a) t m f sh l b k
 generalize findG l a=o at *
 rw[call_go (fd:=fd10) rfl]
 simp(disch:=((fail_if_success (intro _));omega)) only[go_sem,simprocAttr,↓reduceIte,↓Nat.reduceEqDiff,xx,fd10,m10,c,c2,c3,hw,c4]
theorem confirm_new (h:6<=n)(hm:Mg l sh)(hl:l.length<=1000){a e:Int}(hv:VG t m l)(hs:isSite a=true)(h1:0<=e)(h2:e<=t)(h3:(findG l a).h<e) :
  call gl tab n 10 [gAV t m f sh l,i64 a,i64 e] []=some (.tup [nG t m (putL l ⟨a,e,(findG l a).u⟩),i64 0],[],[]):=by
 obtain⟨d,rfl⟩:=Nat.exists_eq_add_of_le' h
 have c:=@valid_at gl (d+5) (by omega) t m f sh l hm (by omega)
 have c2:=@isite_at gl (d+5) (by omega) a
 rw[decide_eq_true hv]at c
 rw[hs]at c2
 obtain⟨b,k,c3,c4⟩:=@site_at gl (d+5) (by omega) t m f sh l hv hm (by omega) a
 obtain⟨w,hw,w1,w2,w3⟩:=max_ex (findG l a).h e
 obtain rfl:w=e:=by omega
 have es:=findG_s l a
 have c4:=c4 (n':=d+5) ⟨a,w,(findG l a).u⟩ (by omega) rfl (fun he=>by rw[<-he]at h3;simp at h3)
 have hL:=gs_length (putL l ⟨a,w,(findG l a).u⟩)
 have hT:List.take (putL l ⟨a,w,(findG l a).u⟩).length (gs (putL l ⟨a,w,(findG l a).u⟩))=gs (putL l ⟨a,w,(findG l a).u⟩):=List.take_of_length_le (by omega)
 have n1:=gs_noImms (putL l ⟨a,w,(findG l a).u⟩)
 generalize putL l ⟨a,w,(findG l a).u⟩=q at *
 generalize findG l a=o at *
 obtain⟨os,oh,ou⟩:=o
 obtain rfl:os=a:=es
 simp only at *
 rw[call_go (fd:=fd10) rfl]
 simp(disch:=((fail_if_success (intro _));omega)) only[go_sem,simprocAttr,↓reduceIte,↓Nat.reduceEqDiff,xx,fd10,m10,c,c2,c3,hw,c4,hL,hT,n1]
end
end Go.Proofs.S30.G
namespace Go.Proofs.S30.G
open Go Go.Ev Go.Proofs
open Go.Proofs.S30.H (GlK GlR)
variable {gl :Gl} {n:Nat}
def CV (lo hi:Int):Prop:=0<=lo/\lo<=hi/\hi<=1099511627776
instance (lo hi:Int):Decidable (CV lo hi):=by unfold CV;infer_instance
theorem cvalid_at (h:1<=n)(lo hi:Int):call gl tab n 24 [.agg [i64 lo,i64 hi]] []=some (.bool (decide (CV lo hi)),[],[]):=by
 obtain⟨d,rfl⟩:=Nat.exists_eq_add_of_le' h
 rw[call_go (fd:=fd24) rfl]
 by_cases h1:0<=lo
 . by_cases h2:lo<=hi
   . by_cases h3:hi<=1099511627776
     . rw[decide_eq_true (show CV lo hi from⟨h1,h2,h3⟩)];simp(disch:=((fail_if_success (intro _));omega)) only[go_sem,simprocAttr,↓reduceIte,↓Nat.reduceEqDiff,xx,fd24,m24]
     . rw[decide_eq_false (fun h:CV lo hi=>h3 h.2.2)];simp(disch:=((fail_if_success (intro _));omega)) only[go_sem,simprocAttr,↓reduceIte,↓Nat.reduceEqDiff,xx,fd24,m24]
   . rw[decide_eq_false (fun h:CV lo hi=>h2 h.2.1)];simp(disch:=((fail_if_success (intro _));omega)) only[go_sem,simprocAttr,↓reduceIte,↓Nat.reduceEqDiff,xx,fd24,m24]
 . rw[decide_eq_false (fun h:CV lo hi=>h1 h.1)];simp(disch:=((fail_if_success (intro _));omega)) only[go_sem,simprocAttr,↓reduceIte,↓Nat.reduceEqDiff,xx,fd24,m24]
abbrev zB :List UInt8:=List.replicate 16 0
theorem zB_av :bytesAV zB=H.out16l:=rfl
abbrev zL :AV:=.agg [i64 0,i64 0,i64 0,i64 0,.agg H.out16l]
structure GOk (t m:Int)(l:List Gt)(a:Int)(k:Ky)(lo hi len:Int):Prop where
 v:VG t m l
 s:isSite a=true
 c:CV lo hi
 n1:1<=len
 n2:len<=m
 kv:VK k
 kp:k.p=1
section
variable {t m:Int} {f:Bool} {sh:Sh} {l:List Gt} {a lo hi len:Int} {k:Ky}
theorem grant_bad (h:3<=n)(hm:Mg l sh)(hl:l.length<=1000000)(hk:k.k.length<=9223372036854775807)(hb:¬GOk t m l a k lo hi len) :
  call gl tab n 11 [gAV t m f sh l,ky k,i64 a,.agg [i64 lo,i64 hi],i64 len] []=some (.tup [zG,zL,i64 1],[],[]):=by
 obtain⟨d,rfl⟩:=Nat.exists_eq_add_of_le' h
 have c:=@valid_at gl (d+2) (by omega) t m f sh l hm hl
 have c2:=@isite_at gl (d+2) (by omega) a
 have c3:=@cvalid_at gl (d+2) (by omega) lo hi
 have c4:=@S30.valid_at gl (d+2) (by omega) k hk
 rw[call_go (fd:=fd11) rfl]
 by_cases hv:VG t m l
 case neg=>rw[decide_eq_false hv]at c;simp(disch:=((fail_if_success (intro _));omega)) only[go_sem,simprocAttr,↓reduceIte,↓Nat.reduceEqDiff,xx,fd11,m11,↓out16_eq,H.out16_len,H.out16_all,H.out16_pl,c]
 rw[decide_eq_true hv]at c
 by_cases hs:isSite a=true
 case neg=>rw[Bool.not_eq_true]at hs;rw[hs]at c2;simp(disch:=((fail_if_success (intro _));omega)) only[go_sem,simprocAttr,↓reduceIte,↓Nat.reduceEqDiff,xx,fd11,m11,↓out16_eq,H.out16_len,H.out16_all,H.out16_pl,c,c2]
 rw[hs]at c2
 by_cases hc:CV lo hi
 case neg=>rw[decide_eq_false hc]at c3;simp(disch:=((fail_if_success (intro _));omega)) only[go_sem,simprocAttr,↓reduceIte,↓Nat.reduceEqDiff,xx,fd11,m11,↓out16_eq,H.out16_len,H.out16_all,H.out16_pl,c,c2,c3]
 rw[decide_eq_true hc]at c3
 by_cases h1:1<=len
 case neg=>simp(disch:=((fail_if_success (intro _));omega)) only[go_sem,simprocAttr,↓reduceIte,↓Nat.reduceEqDiff,xx,fd11,m11,↓out16_eq,H.out16_len,H.out16_all,H.out16_pl,c,c2,c3]
 by_cases h2:len<=m
 case neg=>simp(disch:=((fail_if_success (intro _));omega)) only[go_sem,simprocAttr,↓reduceIte,↓Nat.reduceEqDiff,xx,fd11,m11,↓out16_eq,H.out16_len,H.out16_all,H.out16_pl,c,c2,c3]
 by_cases hk2:VK k
 case neg=>rw[decide_eq_false hk2]at c4;simp(disch:=((fail_if_success (intro _));omega)) only[go_sem,simprocAttr,↓reduceIte,↓Nat.reduceEqDiff,xx,fd11,m11,↓out16_eq,H.out16_len,H.out16_all,H.out16_pl,c,c2,c3,c4]
 rw[decide_eq_true hk2]at c4
 have h3:(k.p != 1)=true:=by rw[bne_iff_ne];exact fun h=>hb ⟨hv,hs,hc,h1,h2,hk2,h⟩
 simp(disch:=((fail_if_success (intro _));omega)) only[go_sem,simprocAttr,↓reduceIte,↓Nat.reduceEqDiff,xx,fd11,m11,↓out16_eq,H.out16_len,H.out16_all,H.out16_pl,c,c2,c3,c4,h3]
def leG (k:Ky)(a t u:Int):Le:=leS k ⟨a,t,u,0,zB⟩
theorem grant_lo (h:6<=n)(hm:Mg l sh)(hl:l.length<=1000)(ok:GOk t m l a k lo hi len) :
  ((findG l a).h<t->call gl tab n 11 [gAV t m f sh l,ky k,i64 a,.agg [i64 lo,i64 hi],i64 len] []=some (.tup [zG,zL,i64 4],[],[])) /\
  (t<=(findG l a).h->1099511627776<lo+len->call gl tab n 11 [gAV t m f sh l,ky k,i64 a,.agg [i64 lo,i64 hi],i64 len] []=some (.tup [zG,zL,i64 2],[],[])):=by
 obtain⟨d,rfl⟩:=Nat.exists_eq_add_of_le' h
 have c:=@valid_at gl (d+5) (by omega) t m f sh l hm (by omega)
 have c2:=@isite_at gl (d+5) (by omega) a
 have c3:=@cvalid_at gl (d+5) (by omega) lo hi
 have c4:=@S30.valid_at gl (d+5) (by omega) k (by have:=ok.kv.k;omega)
 rw[decide_eq_true ok.v]at c
 rw[ok.s]at c2
 rw[decide_eq_true ok.c]at c3
 rw[decide_eq_true ok.kv]at c4
 have h3:(k.p != 1)=false:=by rw[ok.kp];rfl
 obtain⟨b,j,c5,_⟩:=@site_at gl (d+5) (by omega) t m f sh l ok.v hm (by omega) a
 have n1:=ok.n1
 have n2:=ok.n2
 have n3:=ok.v.2.2
 have n4:=ok.c
 unfold CV at n4
 generalize findG l a=o at *
 refine⟨fun g=> ?_,fun g g2=> ?_⟩
 . rw[call_go (fd:=fd11) rfl]
   simp(disch:=((fail_if_success (intro _));omega)) only[go_sem,simprocAttr,↓reduceIte,↓Nat.reduceEqDiff,xx,fd11,m11,↓out16_eq,H.out16_len,H.out16_all,H.out16_pl,c,c2,c3,c4,c5,h3]
 . rw[call_go (fd:=fd11) rfl]
   simp(disch:=((fail_if_success (intro _));omega)) only[go_sem,simprocAttr,↓reduceIte,↓Nat.reduceEqDiff,xx,fd11,m11,↓out16_eq,H.out16_len,H.out16_all,H.out16_pl,c,c2,c3,c4,c5,h3]
theorem leG_ok (ha:isSite a=true)(hv:VG t m l)(u:Int)(hu:0<=u/\u<=1099511627776):LeOk ⟨a,t,u,0,zB⟩:=by
 have h1:=of_decide_eq_true ha
 have h2:=hv.2.1
 exact⟨few_mk (show R64 a by unfold R64;omega) (few_mk (show R64 t by unfold R64;omega) (few_mk (show R64 u by unfold R64;omega) (few_mk (show R64 0 by unfold R64;omega) few_nil (by simp)) (by simp)) (by simp)) (by simp),by simp⟩
theorem grant_old [Nonempty (GlK gl)](h:12<=n)(hm:Mg l sh)(hl:l.length<=1000)(ok:GOk t m l a k lo hi len)(g1:t<=(findG l a).h)(g2:lo+len<=1099511627776)(g3:lo+len<=(findG l a).u) :
  call gl tab n 11 [gAV t m f sh l,ky k,i64 a,.agg [i64 lo,i64 hi],i64 len] []=some (.tup [gAV t m f sh l,leAV (leG k a t (lo+len)),i64 0],[],[]):=by
 obtain⟨d,rfl⟩:=Nat.exists_eq_add_of_le' h
 have c:=@valid_at gl (d+11) (by omega) t m f sh l hm (by omega)
 have c2:=@isite_at gl (d+11) (by omega) a
 have c3:=@cvalid_at gl (d+11) (by omega) lo hi
 have c4:=@S30.valid_at gl (d+11) (by omega) k (by have:=ok.kv.k;omega)
 rw[decide_eq_true ok.v]at c
 rw[ok.s]at c2
 rw[decide_eq_true ok.c]at c3
 rw[decide_eq_true ok.kv]at c4
 have h3:(k.p != 1)=false:=by rw[ok.kp];rfl
 obtain⟨b,j,c5,_⟩:=@site_at gl (d+11) (by omega) t m f sh l ok.v hm (by omega) a
 have n1:=ok.n1
 have n2:=ok.n2
 have n3:=ok.v.2.2
 have n4:=ok.c
 unfold CV at n4
 have hle:=leG_ok ok.s ok.v (lo+len) (by omega)
 have c6:=@leS_at gl (d+11) _ (by omega) k ok.kv.ok _ hle
 have q1:(leG k a t (lo+len)).sgn.length=16:=(leS_ok ok.kv.ok hle).s
 have q2:=H.bytes_all (leG k a t (lo+len)).sgn
 rw[show leS k ⟨a,t,lo+len,0,zB⟩=leG k a t (lo+len)from rfl]at c6
 obtain⟨w,hw,w1,w2,w3⟩:=max_ex (findG l a).u (lo+len)
 obtain rfl:w=(findG l a).u:=by omega
 have c7:=@put_same gl (d+11) (by omega) (findG l a) t m f sh l b j
 simp only[leAV,bAV,zB_av]at c6 ⊢
 generalize leG k a t (lo+len)=le at *
 generalize findG l a=o at *
 clear hle
 rw[call_go (fd:=fd11) rfl]
 simp(maxSteps:=1000000) (implicitDefEqProofs:=false) (disch:=((fail_if_success (intro _));omega)) only[go_sem,simprocAttr,↓reduceIte,↓Nat.reduceEqDiff,xx,fd11,m11,↓out16_eq,H.out16_len,H.out16_all,H.out16_pl,c,c2,c3,c4,c5,h3,hw,c6,c7,q1,q2]
end
end Go.Proofs.S30.G
