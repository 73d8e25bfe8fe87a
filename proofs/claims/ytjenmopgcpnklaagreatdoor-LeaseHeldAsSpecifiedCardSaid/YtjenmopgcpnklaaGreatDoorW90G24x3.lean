/-
  Chapter 30: what a site knows, as specified. No condition.
-/
import Derived.Test.YtjenmopgcpnklaaGreatDoorW90G23x3
set_option linter.unusedVariables false
set_option linter.unusedSimpArgs false
set_option linter.unusedSectionVars false
namespace Go.Proofs.S90.G
open Go Go.Ev Go.Proofs Go.Ck
open Go.Proofs.S90.H (GlK GlR)
variable {gl :Gl} {n:Nat}
theorem rheld_at (h:2<=n)(x:Hd)(hx:x.le.sgn.length=16):call gl tab n 28 [hAV x] []=some (.bool (decide (HV x)),[],[]):=by
 obtain⟨d,rfl⟩:=Nat.exists_eq_add_of_le' h
 have c:=@risite_at gl (d+1) (by omega) x.s
 have q2:=H.bytes_all x.le.sgn
 rw[call_go (fd:=fd28) rfl]
 by_cases h0:isSite x.s=true
 case neg=>rw[decide_eq_false (fun h:HV x=>h0 h.1)];rw[Bool.not_eq_true]at h0;rw[h0]at c;simp(disch:=((fail_if_success (intro _));omega)) only[go_sem,simprocAttr,↓reduceIte,↓Nat.reduceEqDiff,xx,fd28,m28,c,hx,q2]
 rw[h0]at c
 by_cases h1:0<=x.h
 case neg=>rw[decide_eq_false (fun h:HV x=>h1 h.2.1.1)];simp(disch:=((fail_if_success (intro _));omega)) only[go_sem,simprocAttr,↓reduceIte,↓Nat.reduceEqDiff,xx,fd28,m28,c,hx,q2]
 by_cases h2:x.h<=1099511627776
 case neg=>rw[decide_eq_false (fun h:HV x=>h2 h.2.1.2)];simp(disch:=((fail_if_success (intro _));omega)) only[go_sem,simprocAttr,↓reduceIte,↓Nat.reduceEqDiff,xx,fd28,m28,c,hx,q2]
 by_cases h3:0<=x.le.til
 case neg=>rw[decide_eq_false (fun h:HV x=>h3 h.2.2.1)];simp(disch:=((fail_if_success (intro _));omega)) only[go_sem,simprocAttr,↓reduceIte,↓Nat.reduceEqDiff,xx,fd28,m28,c,hx,q2]
 by_cases h4:x.le.til<=1099511627776
 case neg=>rw[decide_eq_false (fun h:HV x=>h4 h.2.2.2)];simp(disch:=((fail_if_success (intro _));omega)) only[go_sem,simprocAttr,↓reduceIte,↓Nat.reduceEqDiff,xx,fd28,m28,c,hx,q2]
 rw[decide_eq_true (show HV x from⟨h0,⟨h1,h2⟩,h3,h4⟩)]
 simp(disch:=((fail_if_success (intro _));omega)) only[go_sem,simprocAttr,↓reduceIte,↓Nat.reduceEqDiff,xx,fd28,m28,c,hx,q2]
theorem rhear_bad (h:3<=n)(x:Hd)(hx:x.le.sgn.length=16){e:Int}(hb:¬(HV x/\0<=e/\e<=1099511627776)):call gl tab n 9 [hAV x,i64 e] []=some (.agg [hAV x,i64 1],[],[]):=by
 obtain⟨d,rfl⟩:=Nat.exists_eq_add_of_le' h
 have c:=@rheld_at gl (d+2) (by omega) x hx
 have q2:=H.bytes_all x.le.sgn
 rw[call_go (fd:=fd9) rfl]
 by_cases h1:HV x
 case neg=>rw[decide_eq_false h1]at c;simp(disch:=((fail_if_success (intro _));omega)) only[go_sem,simprocAttr,↓reduceIte,↓Nat.reduceEqDiff,xx,fd9,m9,↓out16_eq,H.out16_len,H.out16_all,H.out16_pl,c,hx,q2]
 rw[decide_eq_true h1]at c
 by_cases h2:0<=e
 case neg=>simp(disch:=((fail_if_success (intro _));omega)) only[go_sem,simprocAttr,↓reduceIte,↓Nat.reduceEqDiff,xx,fd9,m9,↓out16_eq,H.out16_len,H.out16_all,H.out16_pl,c,hx,q2]
 have h3:¬e<=1099511627776:=fun h=>hb ⟨h1,h2,h⟩
 simp(disch:=((fail_if_success (intro _));omega)) only[go_sem,simprocAttr,↓reduceIte,↓Nat.reduceEqDiff,xx,fd9,m9,↓out16_eq,H.out16_len,H.out16_all,H.out16_pl,c,hx,q2]
theorem rhear_ok (h:3<=n)(x:Hd)(hx:x.le.sgn.length=16){e:Int}(h1:HV x)(h2:0<=e)(h3:e<=1099511627776):call gl tab n 9 [hAV x,i64 e] []=some (.agg [hAV ⟨x.s,mx x.h e,x.le⟩,i64 0],[],[]):=by
 obtain⟨d,rfl⟩:=Nat.exists_eq_add_of_le' h
 have c:=@rheld_at gl (d+2) (by omega) x hx
 rw[decide_eq_true h1]at c
 have q2:=H.bytes_all x.le.sgn
 obtain⟨w,hw,w1,w2,w3⟩:=max_ex x.h e
 have e1:mx x.h e=w:=by unfold mx;split<;>omega
 rw[e1]
 rw[call_go (fd:=fd9) rfl]
 simp(disch:=((fail_if_success (intro _));omega)) only[go_sem,simprocAttr,↓reduceIte,↓Nat.reduceEqDiff,xx,fd9,m9,↓out16_eq,H.out16_len,H.out16_all,H.out16_pl,c,hx,q2,hw]
theorem rtake_at [Nonempty (GlR gl)](h:13<=n){f:Bool}{sh:Sh}{ring:List Ky}(hm:Mk ring sh)(hv:VR ring)(x:Hd)(hx:x.le.sgn.length=16)(l:Le)(hl:LeOk l) :
  call gl tab n 10 [.lst f sh (ks ring),hAV x,leAV l] []=some (.agg [hAV (tkE ring x l).1,i64 (tkE ring x l).2],[],[]):=by
 obtain⟨d,rfl⟩:=Nat.exists_eq_add_of_le' h
 have c:=@rheld_at gl (d+12) (by omega) x hx
 have c2:=rleC_at (gl:=gl) (n:=d+12) (f:=f) (by omega) hm hv l hl
 have q2:=H.bytes_all x.le.sgn
 have q3:=H.bytes_all l.sgn
 have q4:=hl.s
 have b1:(bytesAV l.sgn).length=16:=by rw[bytesAV_length];exact hl.s
 unfold tkE
 generalize leC ring l=z at *
 rw[call_go (fd:=fd10) rfl]
 by_cases h1:HV x
 case neg =>
  rw[decide_eq_false h1]at c
  rw[if_pos (fun h=>h1 h.1)]
  simp(disch:=((fail_if_success (intro _));omega)) only[go_sem,simprocAttr,↓reduceIte,↓Nat.reduceEqDiff,xx,fd10,m10,↓out16_eq,H.out16_len,H.out16_all,H.out16_pl,c,hx,q2,q3,q4]
 rw[decide_eq_true h1]at c
 by_cases h2:l.site=x.s
 case neg =>
  rw[if_pos (fun h=>h2 h.2)]
  have hb:(l.site != x.s)=true:=by rw[bne_iff_ne];exact h2
  simp(disch:=((fail_if_success (intro _));omega)) only[go_sem,simprocAttr,↓reduceIte,↓Nat.reduceEqDiff,xx,fd10,m10,↓out16_eq,H.out16_len,H.out16_all,H.out16_pl,c,hx,q2,q3,q4,hb]
 have hb:(l.site != x.s)=false:=by rw[h2];exact bne_self_eq_false _
 rw[if_neg (fun h=>h ⟨h1,h2⟩)]
 by_cases h3:z=0
 case neg =>
  rw[if_pos h3]
  have hz:(z != 0)=true:=by rw[bne_iff_ne];exact h3
  simp(disch:=((fail_if_success (intro _));omega)) only[go_sem,simprocAttr,↓reduceIte,↓Nat.reduceEqDiff,xx,fd10,m10,↓out16_eq,H.out16_len,H.out16_all,H.out16_pl,c,c2,hx,q2,q3,q4,hb,hz]
 subst h3
 rw[if_neg (by simp)]
 by_cases h4:x.h<l.ep
 . rw[if_pos h4]
   simp(disch:=((fail_if_success (intro _));omega)) only[go_sem,simprocAttr,↓reduceIte,↓Nat.reduceEqDiff,xx,fd10,m10,↓out16_eq,H.out16_len,H.out16_all,H.out16_pl,c,c2,hx,q2,q3,q4,hb]
 rw[if_neg h4]
 by_cases h5:l.til<=x.le.til
 . rw[if_pos h5]
   simp(disch:=((fail_if_success (intro _));omega)) only[go_sem,simprocAttr,↓reduceIte,↓Nat.reduceEqDiff,xx,fd10,m10,↓out16_eq,H.out16_len,H.out16_all,H.out16_pl,c,c2,hx,q2,q3,q4,hb]
 . rw[if_neg h5]
   simp(disch:=((fail_if_success (intro _));omega)) only[go_sem,simprocAttr,↓reduceIte,↓Nat.reduceEqDiff,xx,fd10,m10,↓out16_eq,H.out16_len,H.out16_all,H.out16_pl,c,c2,hx,q2,q3,q4,hb]
theorem rserve_at (h:3<=n)(x:Hd)(hx:x.le.sgn.length=16)(lo hi:Int):call gl tab n 13 [hAV x,.agg [i64 lo,i64 hi]] []=some (.bool (decide (MS x lo hi)),[],[]):=by
 obtain⟨d,rfl⟩:=Nat.exists_eq_add_of_le' h
 have c:=@rheld_at gl (d+2) (by omega) x hx
 have c2:=@rcvalid_at gl (d+2) (by omega) lo hi
 have q2:=H.bytes_all x.le.sgn
 rw[call_go (fd:=fd13) rfl]
 by_cases h1:HV x
 case neg=>rw[decide_eq_false h1]at c;rw[decide_eq_false (fun h:MS x lo hi=>h1 h.1)];simp(disch:=((fail_if_success (intro _));omega)) only[go_sem,simprocAttr,↓reduceIte,↓Nat.reduceEqDiff,xx,fd13,m13,c,hx,q2]
 rw[decide_eq_true h1]at c
 by_cases h2:CV lo hi
 case neg=>rw[decide_eq_false h2]at c2;rw[decide_eq_false (fun h:MS x lo hi=>h2 h.2.1)];simp(disch:=((fail_if_success (intro _));omega)) only[go_sem,simprocAttr,↓reduceIte,↓Nat.reduceEqDiff,xx,fd13,m13,c,c2,hx,q2]
 rw[decide_eq_true h2]at c2
 by_cases h3:hi<x.le.til
 case neg=>rw[decide_eq_false (fun h:MS x lo hi=>h3 h.2.2)];simp(disch:=((fail_if_success (intro _));omega)) only[go_sem,simprocAttr,↓reduceIte,↓Nat.reduceEqDiff,xx,fd13,m13,c,c2,hx,q2]
 rw[decide_eq_true (show MS x lo hi from⟨h1,h2,h3⟩)]
 simp(disch:=((fail_if_success (intro _));omega)) only[go_sem,simprocAttr,↓reduceIte,↓Nat.reduceEqDiff,xx,fd13,m13,c,c2,hx,q2]
theorem rcheck_at (h:3<=n)(c:Cl):call gl tab n 30 [cAV c] []=some (i64 (if CK c then 0 else 1),[],[]):=by
 obtain⟨d,rfl⟩:=Nat.exists_eq_add_of_le' h
 have c2:=@rcvalid_at gl (d+2) (by omega) c.lo c.hi
 rw[call_go (fd:=fd30) rfl]
 by_cases h1:0<=c.l
 case neg=>rw[if_neg (fun h:CK c=>h1 h.1.1)];simp(disch:=((fail_if_success (intro _));omega)) only[go_sem,simprocAttr,↓reduceIte,↓Nat.reduceEqDiff,xx,fd30,m30,c2]
 by_cases h2:c.l<=2199023255552
 case neg=>rw[if_neg (fun h:CK c=>h2 h.1.2)];simp(disch:=((fail_if_success (intro _));omega)) only[go_sem,simprocAttr,↓reduceIte,↓Nat.reduceEqDiff,xx,fd30,m30,c2]
 by_cases h3:CV c.lo c.hi
 case neg=>rw[if_neg (fun h:CK c=>h3 h.2.1)];rw[decide_eq_false h3]at c2;simp(disch:=((fail_if_success (intro _));omega)) only[go_sem,simprocAttr,↓reduceIte,↓Nat.reduceEqDiff,xx,fd30,m30,c2]
 rw[decide_eq_true h3]at c2
 by_cases h4:0<=c.d
 case neg=>rw[if_neg (fun h:CK c=>h4 h.2.2.1)];simp(disch:=((fail_if_success (intro _));omega)) only[go_sem,simprocAttr,↓reduceIte,↓Nat.reduceEqDiff,xx,fd30,m30,c2]
 by_cases h5:c.d<=100000
 case neg=>rw[if_neg (fun h:CK c=>h5 h.2.2.2)];simp(disch:=((fail_if_success (intro _));omega)) only[go_sem,simprocAttr,↓reduceIte,↓Nat.reduceEqDiff,xx,fd30,m30,c2]
 rw[if_pos (show CK c from⟨⟨h1,h2⟩,h3,h4,h5⟩)]
 simp(disch:=((fail_if_success (intro _));omega)) only[go_sem,simprocAttr,↓reduceIte,↓Nat.reduceEqDiff,xx,fd30,m30,c2]
end Go.Proofs.S90.G
namespace Go.Proofs.S90.G
open Go Go.Ev Go.Proofs Go.Ck
variable {gl :Gl} {n:Nat}
theorem clip_at (h:1<=n)(x:Nat)(hx:x<=4611686018427387904):call gl tab n 97 [i64 x] []=some (i64 ((min x 1099511627776:Nat):Int),[],[]):=by
 obtain⟨d,rfl⟩:=Nat.exists_eq_add_of_le' h
 rw[call_go (fd:=fd97) rfl]
 by_cases h1:x<=1099511627776
 . rw[Nat.min_eq_left h1];simp(disch:=((fail_if_success (intro _));omega)) only[go_sem,simprocAttr,↓reduceIte,↓Nat.reduceEqDiff,xx,fd97,m97]
 . rw[Nat.min_eq_right (by omega)]
   have h2:¬(x:Int)<=1099511627776:=by omega
   simp(disch:=((fail_if_success (intro _));omega)) only[go_sem,simprocAttr,↓reduceIte,↓Nat.reduceEqDiff,xx,fd97,m97]
theorem rbefore_at (h:1<=n)(lo hi t:Int):call gl tab n 83 [.agg [i64 lo,i64 hi],i64 t] []=some (.bool (decide (hi<t)),[],[]):=by
 obtain⟨d,rfl⟩:=Nat.exists_eq_add_of_le' h
 rw[call_go (fd:=fd83) rfl]
 simp(disch:=((fail_if_success (intro _));omega)) only[go_sem,simprocAttr,↓reduceIte,↓Nat.reduceEqDiff,xx,fd83,m83]
theorem rread_at (h:2<=n){c:Cl}{l a b d:Nat}(hc:CN c l a b d){j:Nat}(hj:l+j<=2199023255552) :
  call gl tab n 82 [cAV c,i64 ((l+j:Nat):Int)] []=some (.agg [.agg [i64 (loN a d j),i64 (hiN b d j)],i64 0],[],[]):=by
 obtain⟨e,rfl⟩:=Nat.exists_eq_add_of_le' h
 obtain⟨cl,clo,chi,cd⟩:=c
 obtain⟨h1,h2,h3,h4,h5,h6,h7,h8⟩:=hc
 simp only at h1 h2 h3 h4
 subst h1 h2 h3 h4
 have hq1:(j-1)*1000000<=2199023255552000000:=by omega
 obtain⟨F,hF⟩:∃F,F=1000000+d:=⟨_,rfl⟩
 obtain⟨G,hG⟩:∃G,G=1000000-d:=⟨_,rfl⟩
 obtain⟨y1,hy1⟩:∃y,y=(j-1)*1000000:=⟨_,rfl⟩
 obtain⟨y2,hy2⟩:∃y,y=(j+1)*1000000:=⟨_,rfl⟩
 have e3:(1000000:Int)+(d:Int)=(F:Int):=by omega
 have e4:(1000000:Int)-(d:Int)=(G:Int):=by omega
 have e2:((j:Int)+1)*1000000=(y2:Int):=by omega
 have hF0:0<F:=by omega
 have hG0:0<G:=by omega
 have hy4:y2<=2199023255553000000:=by omega
 have d1:=quoN (y:=y1) (z:=F) hF0 (by omega)
 have d2:=quoN (y:=y2) (z:=G) hG0 (by omega)
 have b1:y1/F<=y1:=Nat.div_le_self _ _
 have b2:y2/G<=y2:=Nat.div_le_self _ _
 have b3:y1/F*F<=y1:=Nat.div_mul_le_self _ _
 have cq:=ceil_eq y1 F hF0
 have f1:loN a d j=min (a+(y1+F-1)/F) 1099511627776:=by rw[hy1,hF,loN]
 have f2:hiN b d j=min (b+y2/G) 1099511627776:=by rw[hy2,hG,hiN]
 rw[cq]at f1
 generalize y1/F=A at *
 generalize y2/G=B at *
 obtain⟨P,hP⟩:∃P,P=A*F:=⟨_,rfl⟩
 rw[<-hP]at f1 b3
 have e5:(A:Int)*(F:Int)=(P:Int):=by rw[hP];exact(Int.natCast_mul A F).symm
 have k2:=@clip_at gl (e+1) (by omega) (b+B) (by omega)
 rw[show((b+B:Nat):Int)=(b:Int)+(B:Int) by omega,<-f2]at k2
 have s1:((l+j:Nat):Int)-(l:Int)=(j:Int):=by omega
 have s2:((l+j:Nat):Int)<=2199023255552:=by omega
 have s3:(l:Int)<=((l+j:Nat):Int):=by omega
 clear hP
 by_cases hj0:j=0
 . have hy0:y1=0:=by omega
   have hA0:A=0:=by omega
   rw[if_neg (by omega),hA0]at f1
   have k1:=@clip_at gl (e+1) (by omega) (a+0) (by omega)
   rw[show((a+0:Nat):Int)=(a:Int)+0 by omega,<-f1]at k1
   clear f1 f2
   generalize ((hiN b d j:Nat):Int)=v at *
   generalize ((loN a d j:Nat):Int)=u at *
   generalize ((l+j:Nat):Int)=z at *
   rw[call_go (fd:=fd82) rfl]
   simp(implicitDefEqProofs:=false) (disch:=((fail_if_success (intro _));omega)) only[go_sem,simprocAttr,↓reduceIte,↓Nat.reduceEqDiff,xx,fd82,m82,s1,d2,e2,e4,k1,k2]
 . have e1:((j:Int)-1)*1000000=(y1:Int):=by omega
   by_cases hPy:P<y1
   . rw[if_pos hPy]at f1
     have k1:=@clip_at gl (e+1) (by omega) (a+(A+1)) (by omega)
     rw[show((a+(A+1):Nat):Int)=(a:Int)+((A:Int)+1) by omega,<-f1]at k1
     clear f1 f2
     generalize ((hiN b d j:Nat):Int)=v at *
     generalize ((loN a d j:Nat):Int)=u at *
     generalize ((l+j:Nat):Int)=z at *
     rw[call_go (fd:=fd82) rfl]
     simp(implicitDefEqProofs:=false) (disch:=((fail_if_success (intro _));omega)) only[go_sem,simprocAttr,↓reduceIte,↓Nat.reduceEqDiff,xx,fd82,m82,s1,d1,d2,e1,e2,e3,e4,e5,k1,k2]
   . rw[if_neg hPy]at f1
     have k1:=@clip_at gl (e+1) (by omega) (a+A) (by omega)
     rw[show((a+A:Nat):Int)=(a:Int)+(A:Int) by omega,<-f1]at k1
     clear f1 f2
     generalize ((hiN b d j:Nat):Int)=v at *
     generalize ((loN a d j:Nat):Int)=u at *
     generalize ((l+j:Nat):Int)=z at *
     rw[call_go (fd:=fd82) rfl]
     simp(implicitDefEqProofs:=false) (disch:=((fail_if_success (intro _));omega)) only[go_sem,simprocAttr,↓reduceIte,↓Nat.reduceEqDiff,xx,fd82,m82,s1,d1,d2,e1,e2,e3,e4,e5,k1,k2]
theorem early_at (h:3<=n){c:Cl}{l a b d:Nat}(hc:CN c l a b d)(T:Nat){j:Nat}(hj:l+j<=2199023255552) :
  call gl tab n 71 [cAV c,i64 ((l+j:Nat):Int),i64 T] []=some (.bool (ear b d T j),[],[]):=by
 obtain⟨e,rfl⟩:=Nat.exists_eq_add_of_le' h
 have c1:=@rread_at gl (e+2) (by omega) c l a b d hc j hj
 have c2:=@rbefore_at gl (e+2) (by omega) (loN a d j) (hiN b d j) T
 have hb:decide (((hiN b d j:Nat):Int)<(T:Int))=ear b d T j:=by unfold ear;exact decide_eq_decide.2 (by omega)
 rw[hb]at c2
 generalize ear b d T j=w at *
 generalize ((loN a d j:Nat):Int)=lo at *
 generalize ((hiN b d j:Nat):Int)=hi at *
 generalize ((l+j:Nat):Int)=z at *
 rw[call_go (fd:=fd71) rfl]
 simp(disch:=((fail_if_success (intro _));omega)) only[go_sem,simprocAttr,↓reduceIte,↓Nat.reduceEqDiff,xx,fd71,m71,c1,c2]
end Go.Proofs.S90.G
