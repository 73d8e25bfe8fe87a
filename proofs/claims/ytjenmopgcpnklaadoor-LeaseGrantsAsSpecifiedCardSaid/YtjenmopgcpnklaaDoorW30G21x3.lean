/-
  Chapter 30: the specification's grants. No condition.
-/
import Derived.Test.YtjenmopgcpnklaaDoorW30T
set_option linter.unusedVariables false
set_option linter.unusedSimpArgs false
set_option linter.unusedSectionVars false
namespace Go.Proofs.S30.G
open Go Go.Ev Go.Proofs
open Go.Proofs.S30.H (GlK GlR)
variable {gl :Gl} {n:Nat}
theorem rput_at (h:1<=n){t m:Int}{f:Bool}{sh:Sh}{l:List Gt}(hm:Mg l sh)(hl:l.length<=1000)(hv:VG t m l)(x:Gt) :
  call gl tab n 40 [gAV t m f sh l,gr x] []=some (nG t m (putL l x),[],[]):=by
 obtain⟨d,rfl⟩:=Nat.exists_eq_add_of_le' h
 have hL:=gs_length l
 have st:∀j,j<l.length->contK [.slot 2,.slot 3,.slot 4,.own 5 5005 (.st [.sc,.sc,.sc]),.slot 6,.slot 7,.key 2,.key 3,.key 4] (evC gl (call gl tab d) L40 (S40 t m f sh l x (fl x l j) j))=some (S40 t m f sh l x (fl x l (j+1)) (j+1)):=fun j hj=>by
  obtain rfl:=hm.of hj
  exact step40 hl j hj
 have hle:=fl_len x l l.length (Nat.le_refl _)
 have hfin:=fl_all hv x
 have e0:=fl_zero x l
 simp only[L40,m40]at st
 rw[call_go (fd:=fd40) rfl]
 simp(disch:=((fail_if_success (intro _));omega)) only[go_sem,simprocAttr,↓reduceIte,↓Nat.reduceEqDiff,xx,fd40,m40,hL]
 rw[iter_to (fun j=>S40 t m f sh l x (fl x l j) j) l.length (by unfold LF;omega)]
 . rw[<-hfin]
   generalize fl x l l.length=r at *
   obtain⟨out,b⟩:=r
   simp only at hle
   have hO:=gs_length out
   have hT:List.take out.length (gs out)=gs out:=List.take_of_length_le (by omega)
   have n1:=gs_noImms out
   have hlim:out.length+2<=LIM:=by unfold LIM;omega
   have hT2:List.take (out.length+1) (gs out++[gr x])=gs out++[gr x]:=List.take_of_length_le (by simp[hO])
   rw[S40]
   cases b with
   | true =>
     rw[fin,if_pos rfl]
     simp(disch:=((fail_if_success (intro _));omega)) only[go_sem,simprocAttr,↓reduceIte,↓Nat.reduceEqDiff,xx,hL,hO,hT,n1]
   | false =>
     rw[fin,if_neg (by simp)]
     have e9:nG t m ((out,false).1++[x])= .agg [i64 t,i64 m,.lst false sG (gs out++[gr x])]:=by rw[<-gs_app]
     rw[e9]
     simp(disch:=((fail_if_success (intro _));omega)) only[go_sem,simprocAttr,↓reduceIte,↓Nat.reduceEqDiff,xx,hL,hO,hT,n1,hT2]
 . rw[e0,S40];simp(disch:=((fail_if_success (intro _));omega)) only[go_sem,simprocAttr,↓reduceIte,↓Nat.reduceEqDiff,xx,hL];rfl
 . exact st
 . rw[S40];simp(disch:=((fail_if_success (intro _));omega)) only[go_sem,simprocAttr,↓reduceIte,↓Nat.reduceEqDiff,xx,hL]
theorem rcvalid_at (h:2<=n)(lo hi:Int):call gl tab n 41 [.agg [i64 lo,i64 hi]] []=some (.bool (decide (CV lo hi)),[],[]):=by
 obtain⟨d,rfl⟩:=Nat.exists_eq_add_of_le' h
 have ins:∀t:Int,call gl tab (d+1) 60 [i64 t] []=some (.bool (decide (0<=t/\t<=1099511627776)),[],[]):=fun t=>by
  rw[call_go (fd:=fd60) rfl]
  by_cases h1:0<=t
  . by_cases h2:t<=1099511627776
    . rw[decide_eq_true ⟨h1,h2⟩];simp(disch:=((fail_if_success (intro _));omega)) only[go_sem,simprocAttr,↓reduceIte,↓Nat.reduceEqDiff,xx,fd60,m60]
    . rw[decide_eq_false (fun h=>h2 h.2)];simp(disch:=((fail_if_success (intro _));omega)) only[go_sem,simprocAttr,↓reduceIte,↓Nat.reduceEqDiff,xx,fd60,m60]
  . rw[decide_eq_false (fun h=>h1 h.1)];simp(disch:=((fail_if_success (intro _));omega)) only[go_sem,simprocAttr,↓reduceIte,↓Nat.reduceEqDiff,xx,fd60,m60]
 have a:=ins lo
 have b:=ins hi
 rw[call_go (fd:=fd41) rfl]
 by_cases h1:0<=lo/\lo<=1099511627776
 case neg=>rw[decide_eq_false h1]at a;rw[decide_eq_false (fun h:CV lo hi=>h1 ⟨h.1,by have:=h.2;omega⟩)];simp(disch:=((fail_if_success (intro _));omega)) only[go_sem,simprocAttr,↓reduceIte,↓Nat.reduceEqDiff,xx,fd41,m41,a]
 rw[decide_eq_true h1]at a
 by_cases h2:0<=hi/\hi<=1099511627776
 case neg=>rw[decide_eq_false h2]at b;rw[decide_eq_false (fun h:CV lo hi=>h2 ⟨by have:=h.2;omega,h.2.2⟩)];simp(disch:=((fail_if_success (intro _));omega)) only[go_sem,simprocAttr,↓reduceIte,↓Nat.reduceEqDiff,xx,fd41,m41,a,b]
 rw[decide_eq_true h2]at b
 by_cases h3:lo<=hi
 . rw[decide_eq_true (show CV lo hi from⟨h1.1,h3,h2.2⟩)];simp(disch:=((fail_if_success (intro _));omega)) only[go_sem,simprocAttr,↓reduceIte,↓Nat.reduceEqDiff,xx,fd41,m41,a,b]
 . rw[decide_eq_false (fun h:CV lo hi=>h3 h.2.1)];simp(disch:=((fail_if_success (intro _));omega)) only[go_sem,simprocAttr,↓reduceIte,↓Nat.reduceEqDiff,xx,fd41,m41,a,b]
abbrev zM :AV:=.agg [zG,i64 1]
theorem rnew_at (h:3<=n)(m:Int):call gl tab n 14 [i64 m] []=some (if 1<=m/\m<=3600000 then .agg [.agg [i64 0,i64 m,.lst true .sc []],i64 0]else zM,[],[]):=by
 obtain⟨d,rfl⟩:=Nat.exists_eq_add_of_le' h
 have c:=@rvalid_at gl (d+2) (by omega) 0 m true .sc [] (.inl rfl) (by simp)
 replace c:call gl tab (d+2) 21 [.agg [i64 0,i64 m,.lst true .sc []]] []=_:=c
 rw[call_go (fd:=fd14) rfl]
 by_cases h1:1<=m/\m<=3600000
 . rw[decide_eq_true (show VG 0 m []from⟨fun i hi=>by simp at hi,by omega,h1⟩)]at c
   rw[if_pos h1]
   simp(disch:=((fail_if_success (intro _));omega)) only[go_sem,simprocAttr,↓reduceIte,↓Nat.reduceEqDiff,xx,fd14,m14,c]
 . rw[decide_eq_false (fun h:VG 0 m []=>h1 h.2.2)]at c
   rw[if_neg h1]
   simp(disch:=((fail_if_success (intro _));omega)) only[go_sem,simprocAttr,↓reduceIte,↓Nat.reduceEqDiff,xx,fd14,m14,c]
section
variable {t m:Int} {f:Bool} {sh:Sh} {l:List Gt}
theorem rissue_bad (h:3<=n)(hm:Mg l sh)(hl:l.length<=1000000)(hv:¬VG t m l):call gl tab n 15 [gAV t m f sh l] []=some (zM,[],[]):=by
 obtain⟨d,rfl⟩:=Nat.exists_eq_add_of_le' h
 have c:=@rvalid_at gl (d+2) (by omega) t m f sh l hm hl
 rw[decide_eq_false hv]at c
 rw[call_go (fd:=fd15) rfl]
 simp(disch:=((fail_if_success (intro _));omega)) only[go_sem,simprocAttr,↓reduceIte,↓Nat.reduceEqDiff,xx,fd15,m15,c]
theorem rissue_lim (h:3<=n)(hm:Mg l sh)(hl:l.length<=1000000)(hv:VG t m l)(ht:t=1099511627776):call gl tab n 15 [gAV t m f sh l] []=some (.agg [zG,i64 2],[],[]):=by
 obtain⟨d,rfl⟩:=Nat.exists_eq_add_of_le' h
 have c:=@rvalid_at gl (d+2) (by omega) t m f sh l hm hl
 rw[decide_eq_true hv]at c
 rw[call_go (fd:=fd15) rfl]
 simp(disch:=((fail_if_success (intro _));omega)) only[go_sem,simprocAttr,↓reduceIte,↓Nat.reduceEqDiff,xx,fd15,m15,c]
theorem rissue_ok (h:3<=n)(hm:Mg l sh)(hl:l.length<=1000000)(hv:VG t m l)(ht:t≠1099511627776):call gl tab n 15 [gAV t m f sh l] []=some (.agg [gAV (t+1) m f sh l,i64 0],[],[]):=by
 obtain⟨d,rfl⟩:=Nat.exists_eq_add_of_le' h
 have c:=@rvalid_at gl (d+2) (by omega) t m f sh l hm hl
 rw[decide_eq_true hv]at c
 have:=hv.2.1
 have hb:(t==1099511627776)=false:=by rw[beq_eq_false_iff_ne];exact ht
 rw[call_go (fd:=fd15) rfl]
 simp(disch:=((fail_if_success (intro _));omega)) only[go_sem,simprocAttr,↓reduceIte,↓Nat.reduceEqDiff,xx,fd15,m15,c,hb]
theorem rconfirm_bad (h:3<=n)(hm:Mg l sh)(hl:l.length<=1000000){a e:Int}(hb:¬(VG t m l/\isSite a=true/\0<=e/\e<=t)):call gl tab n 16 [gAV t m f sh l,i64 a,i64 e] []=some (zM,[],[]):=by
 obtain⟨d,rfl⟩:=Nat.exists_eq_add_of_le' h
 have c:=@rvalid_at gl (d+2) (by omega) t m f sh l hm hl
 have c2:=@risite_at gl (d+2) (by omega) a
 rw[call_go (fd:=fd16) rfl]
 by_cases hv:VG t m l
 case neg=>rw[decide_eq_false hv]at c;simp(disch:=((fail_if_success (intro _));omega)) only[go_sem,simprocAttr,↓reduceIte,↓Nat.reduceEqDiff,xx,fd16,m16,c]
 rw[decide_eq_true hv]at c
 by_cases hs:isSite a=true
 case neg=>rw[Bool.not_eq_true]at hs;rw[hs]at c2;simp(disch:=((fail_if_success (intro _));omega)) only[go_sem,simprocAttr,↓reduceIte,↓Nat.reduceEqDiff,xx,fd16,m16,c,c2]
 rw[hs]at c2
 by_cases h1:0<=e
 case neg=>simp(disch:=((fail_if_success (intro _));omega)) only[go_sem,simprocAttr,↓reduceIte,↓Nat.reduceEqDiff,xx,fd16,m16,c,c2]
 have h2:¬e<=t:=fun h=>hb ⟨hv,hs,h1,h⟩
 simp(disch:=((fail_if_success (intro _));omega)) only[go_sem,simprocAttr,↓reduceIte,↓Nat.reduceEqDiff,xx,fd16,m16,c,c2]
theorem rconfirm_old (h:6<=n)(hm:Mg l sh)(hl:l.length<=1000){a e:Int}(hv:VG t m l)(hs:isSite a=true)(h1:0<=e)(h2:e<=t)(h3:e<=(findG l a).h) :
  call gl tab n 16 [gAV t m f sh l,i64 a,i64 e] []=some (.agg [gAV t m f sh l,i64 0],[],[]):=by
 obtain⟨d,rfl⟩:=Nat.exists_eq_add_of_le' h
 have c:=@rvalid_at gl (d+5) (by omega) t m f sh l hm (by omega)
 have c2:=@risite_at gl (d+5) (by omega) a
 rw[decide_eq_true hv]at c
 rw[hs]at c2
 have c3:=@rfind_at gl (d+5) (by omega) t m f sh l hm (by omega) a
 generalize findG l a=o at *
 rw[call_go (fd:=fd16) rfl]
 simp(disch:=((fail_if_success (intro _));omega)) only[go_sem,simprocAttr,↓reduceIte,↓Nat.reduceEqDiff,xx,fd16,m16,c,c2,c3]
theorem rconfirm_new (h:6<=n)(hm:Mg l sh)(hl:l.length<=1000){a e:Int}(hv:VG t m l)(hs:isSite a=true)(h1:0<=e)(h2:e<=t)(h3:(findG l a).h<e) :
  call gl tab n 16 [gAV t m f sh l,i64 a,i64 e] []=some (.agg [nG t m (putL l ⟨a,e,(findG l a).u⟩),i64 0],[],[]):=by
 obtain⟨d,rfl⟩:=Nat.exists_eq_add_of_le' h
 have c:=@rvalid_at gl (d+5) (by omega) t m f sh l hm (by omega)
 have c2:=@risite_at gl (d+5) (by omega) a
 rw[decide_eq_true hv]at c
 rw[hs]at c2
 have c3:=@rfind_at gl (d+5) (by omega) t m f sh l hm (by omega) a
 have es:=findG_s l a
 have c4:=@rput_at gl (d+5) (by omega) t m f sh l hm hl hv ⟨a,e,(findG l a).u⟩
 generalize putL l ⟨a,e,(findG l a).u⟩=q at *
 generalize findG l a=o at *
 obtain⟨os,oh,ou⟩:=o
 obtain rfl:os=a:=es
 simp only at *
 rw[call_go (fd:=fd16) rfl]
 simp(disch:=((fail_if_success (intro _));omega)) only[go_sem,simprocAttr,↓reduceIte,↓Nat.reduceEqDiff,xx,fd16,m16,c,c2,c3,c4]
end
end Go.Proofs.S30.G
namespace Go.Proofs.S30.G
open Go Go.Ev Go.Proofs
open Go.Proofs.S30.H (GlK GlR)
variable {gl :Gl} {n:Nat}
section
variable {t m:Int} {f:Bool} {sh:Sh} {l:List Gt} {a lo hi len:Int} {k:Ky}
abbrev zGr (e:Int):AV:=.agg [zG,zL,i64 e]
theorem rgrant_bad (h:3<=n)(hm:Mg l sh)(hl:l.length<=1000000)(hk:k.k.length<=9223372036854775807)(hb:¬GOk t m l a k lo hi len) :
  call gl tab n 17 [gAV t m f sh l,ky k,i64 a,.agg [i64 lo,i64 hi],i64 len] []=some (zGr 1,[],[]):=by
 obtain⟨d,rfl⟩:=Nat.exists_eq_add_of_le' h
 have c:=@rvalid_at gl (d+2) (by omega) t m f sh l hm hl
 have c2:=@risite_at gl (d+2) (by omega) a
 have c3:=@rcvalid_at gl (d+2) (by omega) lo hi
 have c4:=@S30.rvalid_at gl (d+2) (by omega) k hk
 rw[call_go (fd:=fd17) rfl]
 by_cases hv:VG t m l
 case neg=>rw[decide_eq_false hv]at c;simp(disch:=((fail_if_success (intro _));omega)) only[go_sem,simprocAttr,↓reduceIte,↓Nat.reduceEqDiff,xx,fd17,m17,↓out16_eq,H.out16_len,H.out16_all,H.out16_pl,c]
 rw[decide_eq_true hv]at c
 by_cases hs:isSite a=true
 case neg=>rw[Bool.not_eq_true]at hs;rw[hs]at c2;simp(disch:=((fail_if_success (intro _));omega)) only[go_sem,simprocAttr,↓reduceIte,↓Nat.reduceEqDiff,xx,fd17,m17,↓out16_eq,H.out16_len,H.out16_all,H.out16_pl,c,c2]
 rw[hs]at c2
 by_cases hc:CV lo hi
 case neg=>rw[decide_eq_false hc]at c3;simp(disch:=((fail_if_success (intro _));omega)) only[go_sem,simprocAttr,↓reduceIte,↓Nat.reduceEqDiff,xx,fd17,m17,↓out16_eq,H.out16_len,H.out16_all,H.out16_pl,c,c2,c3]
 rw[decide_eq_true hc]at c3
 by_cases h1:1<=len
 case neg=>simp(disch:=((fail_if_success (intro _));omega)) only[go_sem,simprocAttr,↓reduceIte,↓Nat.reduceEqDiff,xx,fd17,m17,↓out16_eq,H.out16_len,H.out16_all,H.out16_pl,c,c2,c3]
 by_cases h2:len<=m
 case neg=>simp(disch:=((fail_if_success (intro _));omega)) only[go_sem,simprocAttr,↓reduceIte,↓Nat.reduceEqDiff,xx,fd17,m17,↓out16_eq,H.out16_len,H.out16_all,H.out16_pl,c,c2,c3]
 by_cases hk2:VK k
 case neg=>rw[decide_eq_false hk2]at c4;simp(disch:=((fail_if_success (intro _));omega)) only[go_sem,simprocAttr,↓reduceIte,↓Nat.reduceEqDiff,xx,fd17,m17,↓out16_eq,H.out16_len,H.out16_all,H.out16_pl,c,c2,c3,c4]
 rw[decide_eq_true hk2]at c4
 have h3:(k.p != 1)=true:=by rw[bne_iff_ne];exact fun h=>hb ⟨hv,hs,hc,h1,h2,hk2,h⟩
 simp(disch:=((fail_if_success (intro _));omega)) only[go_sem,simprocAttr,↓reduceIte,↓Nat.reduceEqDiff,xx,fd17,m17,↓out16_eq,H.out16_len,H.out16_all,H.out16_pl,c,c2,c3,c4,h3]
theorem rgrant_lo (h:6<=n)(hm:Mg l sh)(hl:l.length<=1000)(ok:GOk t m l a k lo hi len) :
  ((findG l a).h<t->call gl tab n 17 [gAV t m f sh l,ky k,i64 a,.agg [i64 lo,i64 hi],i64 len] []=some (zGr 4,[],[])) /\
  (t<=(findG l a).h->1099511627776<lo+len->call gl tab n 17 [gAV t m f sh l,ky k,i64 a,.agg [i64 lo,i64 hi],i64 len] []=some (zGr 2,[],[])):=by
 obtain⟨d,rfl⟩:=Nat.exists_eq_add_of_le' h
 have c:=@rvalid_at gl (d+5) (by omega) t m f sh l hm (by omega)
 have c2:=@risite_at gl (d+5) (by omega) a
 have c3:=@rcvalid_at gl (d+5) (by omega) lo hi
 have c4:=@S30.rvalid_at gl (d+5) (by omega) k (by have:=ok.kv.k;omega)
 rw[decide_eq_true ok.v]at c
 rw[ok.s]at c2
 rw[decide_eq_true ok.c]at c3
 rw[decide_eq_true ok.kv]at c4
 have h3:(k.p != 1)=false:=by rw[ok.kp];rfl
 have c5:=@rfind_at gl (d+5) (by omega) t m f sh l hm (by omega) a
 have n1:=ok.n1
 have n2:=ok.n2
 have n3:=ok.v.2.2
 have n4:=ok.c
 unfold CV at n4
 generalize findG l a=o at *
 refine⟨fun g=> ?_,fun g g2=> ?_⟩
 . rw[call_go (fd:=fd17) rfl]
   simp(disch:=((fail_if_success (intro _));omega)) only[go_sem,simprocAttr,↓reduceIte,↓Nat.reduceEqDiff,xx,fd17,m17,↓out16_eq,H.out16_len,H.out16_all,H.out16_pl,c,c2,c3,c4,c5,h3]
 . rw[call_go (fd:=fd17) rfl]
   simp(disch:=((fail_if_success (intro _));omega)) only[go_sem,simprocAttr,↓reduceIte,↓Nat.reduceEqDiff,xx,fd17,m17,↓out16_eq,H.out16_len,H.out16_all,H.out16_pl,c,c2,c3,c4,c5,h3]
theorem rgrant_ok [Nonempty (GlR gl)](h:12<=n)(hm:Mg l sh)(hl:l.length<=1000)(ok:GOk t m l a k lo hi len)(g1:t<=(findG l a).h)(g2:lo+len<=1099511627776) :
  (lo+len<=(findG l a).u->call gl tab n 17 [gAV t m f sh l,ky k,i64 a,.agg [i64 lo,i64 hi],i64 len] []=some (.agg [gAV t m f sh l,leAV (leG k a t (lo+len)),i64 0],[],[])) /\
  ((findG l a).u<lo+len->call gl tab n 17 [gAV t m f sh l,ky k,i64 a,.agg [i64 lo,i64 hi],i64 len] []=some (.agg [nG t m (putL l ⟨a,(findG l a).h,lo+len⟩),leAV (leG k a t (lo+len)),i64 0],[],[])):=by
 obtain⟨d,rfl⟩:=Nat.exists_eq_add_of_le' h
 have c:=@rvalid_at gl (d+11) (by omega) t m f sh l hm (by omega)
 have c2:=@risite_at gl (d+11) (by omega) a
 have c3:=@rcvalid_at gl (d+11) (by omega) lo hi
 have c4:=@S30.rvalid_at gl (d+11) (by omega) k (by have:=ok.kv.k;omega)
 rw[decide_eq_true ok.v]at c
 rw[ok.s]at c2
 rw[decide_eq_true ok.c]at c3
 rw[decide_eq_true ok.kv]at c4
 have h3:(k.p != 1)=false:=by rw[ok.kp];rfl
 have c5:=@rfind_at gl (d+11) (by omega) t m f sh l hm (by omega) a
 have n1:=ok.n1
 have n2:=ok.n2
 have n3:=ok.v.2.2
 have n4:=ok.c
 unfold CV at n4
 have hle:=leG_ok ok.s ok.v (lo+len) (by omega)
 have c6:=@lerS_at gl (d+11) _ (by omega) k ok.kv.ok _ hle
 have q1:(leG k a t (lo+len)).sgn.length=16:=(leS_ok ok.kv.ok hle).s
 have q2:=H.bytes_all (leG k a t (lo+len)).sgn
 rw[show leS k ⟨a,t,lo+len,0,zB⟩=leG k a t (lo+len)from rfl]at c6
 have es:=findG_s l a
 have c7:=@rput_at gl (d+11) (by omega) t m f sh l hm hl ok.v ⟨a,(findG l a).h,lo+len⟩
 simp only[leAV,bAV,zB_av]at c6 ⊢
 generalize leG k a t (lo+len)=le at *
 generalize putL l ⟨a,(findG l a).h,lo+len⟩=q at *
 generalize findG l a=o at *
 obtain⟨os,oh,ou⟩:=o
 obtain rfl:os=a:=es
 simp only at *
 clear hle
 refine⟨fun g=> ?_,fun g=> ?_⟩
 . rw[call_go (fd:=fd17) rfl]
   simp(maxSteps:=1000000) (implicitDefEqProofs:=false) (disch:=((fail_if_success (intro _));omega)) only[go_sem,simprocAttr,↓reduceIte,↓Nat.reduceEqDiff,xx,fd17,m17,↓out16_eq,H.out16_len,H.out16_all,H.out16_pl,c,c2,c3,c4,c5,h3,c6,q1,q2]
 . rw[call_go (fd:=fd17) rfl]
   simp(maxSteps:=1000000) (implicitDefEqProofs:=false) (disch:=((fail_if_success (intro _));omega)) only[go_sem,simprocAttr,↓reduceIte,↓Nat.reduceEqDiff,xx,fd17,m17,↓out16_eq,H.out16_len,H.out16_all,H.out16_pl,c,c2,c3,c4,c5,h3,c6,c7,q1,q2]
end
end Go.Proofs.S30.G
