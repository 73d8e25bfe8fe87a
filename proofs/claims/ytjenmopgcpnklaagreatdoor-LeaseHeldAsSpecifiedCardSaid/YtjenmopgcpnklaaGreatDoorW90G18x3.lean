/-
  Chapter 30: granting. No condition.
-/
import Derived.Test.YtjenmopgcpnklaaGreatDoorW90G17x3
set_option linter.unusedVariables false
set_option linter.unusedSimpArgs false
set_option linter.unusedSectionVars false
namespace Go.Proofs.S90.G
open Go Go.Ev Go.Proofs
open Go.Proofs.S90.H (GlK GlR)
variable {gl :Gl} {n:Nat}
def CV (lo hi:Int):Prop:=0<=lo/\lo<=hi/\hi<=1099511627776
instance (lo hi:Int):Decidable (CV lo hi):=by unfold CV;infer_instance
theorem cvalid_at (h:1<=n)(lo hi:Int):call gl tab n 32 [.agg [i64 lo,i64 hi]] []=some (.bool (decide (CV lo hi)),[],[]):=by
 obtain⟨d,rfl⟩:=Nat.exists_eq_add_of_le' h
 rw[call_go (fd:=fd32) rfl]
 by_cases h1:0<=lo
 . by_cases h2:lo<=hi
   . by_cases h3:hi<=1099511627776
     . rw[decide_eq_true (show CV lo hi from⟨h1,h2,h3⟩)];simp(disch:=((fail_if_success (intro _));omega)) only[go_sem,simprocAttr,↓reduceIte,↓Nat.reduceEqDiff,xx,fd32,m32]
     . rw[decide_eq_false (fun h:CV lo hi=>h3 h.2.2)];simp(disch:=((fail_if_success (intro _));omega)) only[go_sem,simprocAttr,↓reduceIte,↓Nat.reduceEqDiff,xx,fd32,m32]
   . rw[decide_eq_false (fun h:CV lo hi=>h2 h.2.1)];simp(disch:=((fail_if_success (intro _));omega)) only[go_sem,simprocAttr,↓reduceIte,↓Nat.reduceEqDiff,xx,fd32,m32]
 . rw[decide_eq_false (fun h:CV lo hi=>h1 h.1)];simp(disch:=((fail_if_success (intro _));omega)) only[go_sem,simprocAttr,↓reduceIte,↓Nat.reduceEqDiff,xx,fd32,m32]
abbrev zB :List UInt8:=List.replicate 16 0
theorem zB_av :bytesAV zB=H.out16l:=rfl
abbrev zL :AV:=.agg [i64 0,i64 0,i64 0,i64 0,.agg H.out16l]
structure GOk (t m:Int)(l:List Gt)(a:Int)(k:Ky)(lo hi len:Int):Prop where
 v:VG t m l
 s:isSite a=true
 c:CV lo hi
 n1:1<=len
 n2:len<=m
 kv:VK k
 kp:k.p=1
section
variable {t m:Int} {f:Bool} {sh:Sh} {l:List Gt} {a lo hi len:Int} {k:Ky}
theorem grant_bad (h:3<=n)(hm:Mg l sh)(hl:l.length<=1000000)(hk:k.k.length<=9223372036854775807)(hb:¬GOk t m l a k lo hi len) :
  call gl tab n 17 [gAV t m f sh l,ky k,i64 a,.agg [i64 lo,i64 hi],i64 len] []=some (.tup [zG,zL,i64 1],[],[]):=by
 obtain⟨d,rfl⟩:=Nat.exists_eq_add_of_le' h
 have c:=@valid_at gl (d+2) (by omega) t m f sh l hm hl
 have c2:=@isite_at gl (d+2) (by omega) a
 have c3:=@cvalid_at gl (d+2) (by omega) lo hi
 have c4:=@S90.valid_at gl (d+2) (by omega) k hk
 rw[call_go (fd:=fd17) rfl]
 by_cases hv:VG t m l
 case neg=>rw[decide_eq_false hv]at c;simp(disch:=((fail_if_success (intro _));omega)) only[go_sem,simprocAttr,↓reduceIte,↓Nat.reduceEqDiff,xx,fd17,m17,↓out16_eq,H.out16_len,H.out16_all,H.out16_pl,c]
 rw[decide_eq_true hv]at c
 by_cases hs:isSite a=true
 case neg=>rw[Bool.not_eq_true]at hs;rw[hs]at c2;simp(disch:=((fail_if_success (intro _));omega)) only[go_sem,simprocAttr,↓reduceIte,↓Nat.reduceEqDiff,xx,fd17,m17,↓out16_eq,H.out16_len,H.out16_all,H.out16_pl,c,c2]
 rw[hs]at c2
 by_cases hc:CV lo hi
 case neg=>rw[decide_eq_false hc]at c3;simp(disch:=((fail_if_success (intro _));omega)) only[go_sem,simprocAttr,↓reduceIte,↓Nat.reduceEqDiff,xx,fd17,m17,↓out16_eq,H.out16_len,H.out16_all,H.out16_pl,c,c2,c3]
 rw[decide_eq_true hc]at c3
 by_cases h1:1<=len
 case neg=>simp(disch:=((fail_if_success (intro _));omega)) only[go_sem,simprocAttr,↓reduceIte,↓Nat.reduceEqDiff,xx,fd17,m17,↓out16_eq,H.out16_len,H.out16_all,H.out16_pl,c,c2,c3]
 by_cases h2:len<=m
 case neg=>simp(disch:=((fail_if_success (intro _));omega)) only[go_sem,simprocAttr,↓reduceIte,↓Nat.reduceEqDiff,xx,fd17,m17,↓out16_eq,H.out16_len,H.out16_all,H.out16_pl,c,c2,c3]
 by_cases hk2:VK k
 case neg=>rw[decide_eq_false hk2]at c4;simp(disch:=((fail_if_success (intro _));omega)) only[go_sem,simprocAttr,↓reduceIte,↓Nat.reduceEqDiff,xx,fd17,m17,↓out16_eq,H.out16_len,H.out16_all,H.out16_pl,c,c2,c3,c4]
 rw[decide_eq_true hk2]at c4
 have h3:(k.p != 1)=true:=by rw[bne_iff_ne];exact fun h=>hb ⟨hv,hs,hc,h1,h2,hk2,h⟩
 simp(disch:=((fail_if_success (intro _));omega)) only[go_sem,simprocAttr,↓reduceIte,↓Nat.reduceEqDiff,xx,fd17,m17,↓out16_eq,H.out16_len,H.out16_all,H.out16_pl,c,c2,c3,c4,h3]
def leG (k:Ky)(a t u:Int):Le:=leS k ⟨a,t,u,0,zB⟩
theorem grant_lo (h:6<=n)(hm:Mg l sh)(hl:l.length<=1000)(ok:GOk t m l a k lo hi len) :
  ((findG l a).h<t->call gl tab n 17 [gAV t m f sh l,ky k,i64 a,.agg [i64 lo,i64 hi],i64 len] []=some (.tup [zG,zL,i64 4],[],[])) /\
  (t<=(findG l a).h->1099511627776<lo+len->call gl tab n 17 [gAV t m f sh l,ky k,i64 a,.agg [i64 lo,i64 hi],i64 len] []=some (.tup [zG,zL,i64 2],[],[])):=by
 obtain⟨d,rfl⟩:=Nat.exists_eq_add_of_le' h
 have c:=@valid_at gl (d+5) (by omega) t m f sh l hm (by omega)
 have c2:=@isite_at gl (d+5) (by omega) a
 have c3:=@cvalid_at gl (d+5) (by omega) lo hi
 have c4:=@S90.valid_at gl (d+5) (by omega) k (by have:=ok.kv.k;omega)
 rw[decide_eq_true ok.v]at c
 rw[ok.s]at c2
 rw[decide_eq_true ok.c]at c3
 rw[decide_eq_true ok.kv]at c4
 have h3:(k.p != 1)=false:=by rw[ok.kp];rfl
 obtain⟨b,j,c5,_⟩:=@site_at gl (d+5) (by omega) t m f sh l ok.v hm (by omega) a
 have n1:=ok.n1
 have n2:=ok.n2
 have n3:=ok.v.2.2
 have n4:=ok.c
 unfold CV at n4
 generalize findG l a=o at *
 refine⟨fun g=> ?_,fun g g2=> ?_⟩
 . rw[call_go (fd:=fd17) rfl]
   simp(disch:=((fail_if_success (intro _));omega)) only[go_sem,simprocAttr,↓reduceIte,↓Nat.reduceEqDiff,xx,fd17,m17,↓out16_eq,H.out16_len,H.out16_all,H.out16_pl,c,c2,c3,c4,c5,h3]
 . rw[call_go (fd:=fd17) rfl]
   simp(disch:=((fail_if_success (intro _));omega)) only[go_sem,simprocAttr,↓reduceIte,↓Nat.reduceEqDiff,xx,fd17,m17,↓out16_eq,H.out16_len,H.out16_all,H.out16_pl,c,c2,c3,c4,c5,h3]
theorem leG_ok (ha:isSite a=true)(hv:VG t m l)(u:Int)(hu:0<=u/\u<=1099511627776):LeOk ⟨a,t,u,0,zB⟩:=by
 have h1:=of_decide_eq_true ha
 have h2:=hv.2.1
 exact⟨few_mk (show R64 a by unfold R64;omega) (few_mk (show R64 t by unfold R64;omega) (few_mk (show R64 u by unfold R64;omega) (few_mk (show R64 0 by unfold R64;omega) few_nil (by simp)) (by simp)) (by simp)) (by simp),by simp⟩
theorem grant_old [Nonempty (GlK gl)](h:12<=n)(hm:Mg l sh)(hl:l.length<=1000)(ok:GOk t m l a k lo hi len)(g1:t<=(findG l a).h)(g2:lo+len<=1099511627776)(g3:lo+len<=(findG l a).u) :
  call gl tab n 17 [gAV t m f sh l,ky k,i64 a,.agg [i64 lo,i64 hi],i64 len] []=some (.tup [gAV t m f sh l,leAV (leG k a t (lo+len)),i64 0],[],[]):=by
 obtain⟨d,rfl⟩:=Nat.exists_eq_add_of_le' h
 have c:=@valid_at gl (d+11) (by omega) t m f sh l hm (by omega)
 have c2:=@isite_at gl (d+11) (by omega) a
 have c3:=@cvalid_at gl (d+11) (by omega) lo hi
 have c4:=@S90.valid_at gl (d+11) (by omega) k (by have:=ok.kv.k;omega)
 rw[decide_eq_true ok.v]at c
 rw[ok.s]at c2
 rw[decide_eq_true ok.c]at c3
 rw[decide_eq_true ok.kv]at c4
 have h3:(k.p != 1)=false:=by rw[ok.kp];rfl
 obtain⟨b,j,c5,_⟩:=@site_at gl (d+11) (by omega) t m f sh l ok.v hm (by omega) a
 have n1:=ok.n1
 have n2:=ok.n2
 have n3:=ok.v.2.2
 have n4:=ok.c
 unfold CV at n4
 have hle:=leG_ok ok.s ok.v (lo+len) (by omega)
 have c6:=@leS_at gl (d+11) _ (by omega) k ok.kv.ok _ hle
 have q1:(leG k a t (lo+len)).sgn.length=16:=(leS_ok ok.kv.ok hle).s
 have q2:=H.bytes_all (leG k a t (lo+len)).sgn
 rw[show leS k ⟨a,t,lo+len,0,zB⟩=leG k a t (lo+len)from rfl]at c6
 obtain⟨w,hw,w1,w2,w3⟩:=max_ex (findG l a).u (lo+len)
 obtain rfl:w=(findG l a).u:=by omega
 have c7:=@put_same gl (d+11) (by omega) (findG l a) t m f sh l b j
 simp only[leAV,bAV,zB_av]at c6 ⊢
 generalize leG k a t (lo+len)=le at *
 generalize findG l a=o at *
 clear hle
 rw[call_go (fd:=fd17) rfl]
 simp(maxSteps:=1000000) (implicitDefEqProofs:=false) (disch:=((fail_if_success (intro _));omega)) only[go_sem,simprocAttr,↓reduceIte,↓Nat.reduceEqDiff,xx,fd17,m17,↓out16_eq,H.out16_len,H.out16_all,H.out16_pl,c,c2,c3,c4,c5,h3,hw,c6,c7,q1,q2]
end
end Go.Proofs.S90.G
namespace Go.Proofs.S90.G
open Go Go.Ev Go.Proofs
open Go.Proofs.S90.H (GlK GlR)
variable {gl :Gl} {n:Nat}
section
variable {t m:Int} {f:Bool} {sh:Sh} {l:List Gt} {a lo hi len:Int} {k:Ky}
theorem grant_new [Nonempty (GlK gl)](h:12<=n)(hm:Mg l sh)(hl:l.length<=1000)(ok:GOk t m l a k lo hi len)(g1:t<=(findG l a).h)(g2:lo+len<=1099511627776)(g3:(findG l a).u<lo+len) :
  call gl tab n 17 [gAV t m f sh l,ky k,i64 a,.agg [i64 lo,i64 hi],i64 len] [] =
   some (.tup [nG t m (putL l ⟨a,(findG l a).h,lo+len⟩),leAV (leG k a t (lo+len)),i64 0],[],[]):=by
 obtain⟨d,rfl⟩:=Nat.exists_eq_add_of_le' h
 have c:=@valid_at gl (d+11) (by omega) t m f sh l hm (by omega)
 have c2:=@isite_at gl (d+11) (by omega) a
 have c3:=@cvalid_at gl (d+11) (by omega) lo hi
 have c4:=@S90.valid_at gl (d+11) (by omega) k (by have:=ok.kv.k;omega)
 rw[decide_eq_true ok.v]at c
 rw[ok.s]at c2
 rw[decide_eq_true ok.c]at c3
 rw[decide_eq_true ok.kv]at c4
 have h3:(k.p != 1)=false:=by rw[ok.kp];rfl
 obtain⟨b,j,c5,c7⟩:=@site_at gl (d+11) (by omega) t m f sh l ok.v hm (by omega) a
 have n1:=ok.n1
 have n2:=ok.n2
 have n3:=ok.v.2.2
 have n4:=ok.c
 unfold CV at n4
 have hle:=leG_ok ok.s ok.v (lo+len) (by omega)
 have c6:=@leS_at gl (d+11) _ (by omega) k ok.kv.ok _ hle
 have q1:(leG k a t (lo+len)).sgn.length=16:=(leS_ok ok.kv.ok hle).s
 have q2:=H.bytes_all (leG k a t (lo+len)).sgn
 rw[show leS k ⟨a,t,lo+len,0,zB⟩=leG k a t (lo+len)from rfl]at c6
 obtain⟨w,hw,w1,w2,w3⟩:=max_ex (findG l a).u (lo+len)
 obtain rfl:w=lo+len:=by omega
 have es:=findG_s l a
 have c7:=c7 (n':=d+11) ⟨a,(findG l a).h,lo+len⟩ (by omega) rfl (fun he=>by rw[<-he]at g3;simp at g3)
 have hL:=gs_length (putL l ⟨a,(findG l a).h,lo+len⟩)
 have hT:List.take (putL l ⟨a,(findG l a).h,lo+len⟩).length (gs (putL l ⟨a,(findG l a).h,lo+len⟩))=gs (putL l ⟨a,(findG l a).h,lo+len⟩):=List.take_of_length_le (by omega)
 have m1:=gs_noImms (putL l ⟨a,(findG l a).h,lo+len⟩)
 simp only[leAV,bAV,zB_av]at c6 ⊢
 generalize leG k a t (lo+len)=le at *
 generalize putL l ⟨a,(findG l a).h,lo+len⟩=q at *
 generalize findG l a=o at *
 obtain⟨os,oh,ou⟩:=o
 obtain rfl:os=a:=es
 simp only at *
 clear hle
 rw[call_go (fd:=fd17) rfl]
 simp(maxSteps:=1000000) (implicitDefEqProofs:=false) (disch:=((fail_if_success (intro _));omega)) only[go_sem,simprocAttr,↓reduceIte,↓Nat.reduceEqDiff,xx,fd17,m17,↓out16_eq,H.out16_len,H.out16_all,H.out16_pl,c,c2,c3,c4,c5,h3,hw,c6,c7,q1,q2,hL,hT,m1]
end
end Go.Proofs.S90.G
