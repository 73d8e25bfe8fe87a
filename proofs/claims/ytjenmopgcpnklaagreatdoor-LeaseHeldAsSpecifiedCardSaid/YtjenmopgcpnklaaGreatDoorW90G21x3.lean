/-
  Chapter 30: what a site knows. No condition.
-/
import Derived.Test.YtjenmopgcpnklaaGreatDoorW90L
set_option linter.unusedVariables false
set_option linter.unusedSimpArgs false
set_option linter.unusedSectionVars false
namespace Go.Proofs.S90.G
open Go Go.Ev Go.Proofs
open Go.Proofs.S90.H (GlK GlR)
variable {gl :Gl} {n:Nat}
structure Hd where
 s:Int
 h:Int
 le:Le
abbrev hAV (x:Hd):AV:=.agg [i64 x.s,i64 x.h,.agg [i64 x.le.site,i64 x.le.ep,i64 x.le.til,i64 x.le.ser,.agg (bytesAV x.le.sgn)]]
def HV (x:Hd):Prop:=isSite x.s=true/\(0<=x.h/\x.h<=1099511627776)/\0<=x.le.til/\x.le.til<=1099511627776
instance (x :Hd):Decidable (HV x):=by unfold HV;infer_instance
theorem held_at (h:2<=n)(x:Hd)(hx:x.le.sgn.length=16):call gl tab n 24 [hAV x] []=some (.bool (decide (HV x)),[],[]):=by
 obtain⟨d,rfl⟩:=Nat.exists_eq_add_of_le' h
 have c:=@isite_at gl (d+1) (by omega) x.s
 have q2:=H.bytes_all x.le.sgn
 rw[call_go (fd:=fd24) rfl]
 by_cases h0:isSite x.s=true
 case neg=>rw[decide_eq_false (fun h:HV x=>h0 h.1)];rw[Bool.not_eq_true]at h0;rw[h0]at c;simp(disch:=((fail_if_success (intro _));omega)) only[go_sem,simprocAttr,↓reduceIte,↓Nat.reduceEqDiff,xx,fd24,m24,c,hx,q2]
 rw[h0]at c
 by_cases h1:0<=x.h
 case neg=>rw[decide_eq_false (fun h:HV x=>h1 h.2.1.1)];simp(disch:=((fail_if_success (intro _));omega)) only[go_sem,simprocAttr,↓reduceIte,↓Nat.reduceEqDiff,xx,fd24,m24,c,hx,q2]
 by_cases h2:x.h<=1099511627776
 case neg=>rw[decide_eq_false (fun h:HV x=>h2 h.2.1.2)];simp(disch:=((fail_if_success (intro _));omega)) only[go_sem,simprocAttr,↓reduceIte,↓Nat.reduceEqDiff,xx,fd24,m24,c,hx,q2]
 by_cases h3:0<=x.le.til
 case neg=>rw[decide_eq_false (fun h:HV x=>h3 h.2.2.1)];simp(disch:=((fail_if_success (intro _));omega)) only[go_sem,simprocAttr,↓reduceIte,↓Nat.reduceEqDiff,xx,fd24,m24,c,hx,q2]
 by_cases h4:x.le.til<=1099511627776
 case neg=>rw[decide_eq_false (fun h:HV x=>h4 h.2.2.2)];simp(disch:=((fail_if_success (intro _));omega)) only[go_sem,simprocAttr,↓reduceIte,↓Nat.reduceEqDiff,xx,fd24,m24,c,hx,q2]
 rw[decide_eq_true (show HV x from⟨h0,⟨h1,h2⟩,h3,h4⟩)]
 simp(disch:=((fail_if_success (intro _));omega)) only[go_sem,simprocAttr,↓reduceIte,↓Nat.reduceEqDiff,xx,fd24,m24,c,hx,q2]
theorem before_at (h:1<=n)(lo hi t:Int):call gl tab n 33 [.agg [i64 lo,i64 hi],i64 t] []=some (.bool (decide (hi<t)),[],[]):=by
 obtain⟨d,rfl⟩:=Nat.exists_eq_add_of_le' h
 rw[call_go (fd:=fd33) rfl]
 simp(disch:=((fail_if_success (intro _));omega)) only[go_sem,simprocAttr,↓reduceIte,↓Nat.reduceEqDiff,xx,fd33,m33]
def MS (x:Hd)(lo hi:Int):Prop:=HV x/\CV lo hi/\hi<x.le.til
instance (x :Hd) (lo hi:Int):Decidable (MS x lo hi):=by unfold MS;infer_instance
theorem serve_at (h:3<=n)(x:Hd)(hx:x.le.sgn.length=16)(lo hi:Int):call gl tab n 12 [hAV x,.agg [i64 lo,i64 hi]] []=some (.bool (decide (MS x lo hi)),[],[]):=by
 obtain⟨d,rfl⟩:=Nat.exists_eq_add_of_le' h
 have c:=@held_at gl (d+2) (by omega) x hx
 have c2:=@cvalid_at gl (d+2) (by omega) lo hi
 have c3:=@before_at gl (d+2) (by omega) lo hi x.le.til
 have q2:=H.bytes_all x.le.sgn
 rw[call_go (fd:=fd12) rfl]
 by_cases h1:HV x
 case neg=>rw[decide_eq_false h1]at c;rw[decide_eq_false (fun h:MS x lo hi=>h1 h.1)];simp(disch:=((fail_if_success (intro _));omega)) only[go_sem,simprocAttr,↓reduceIte,↓Nat.reduceEqDiff,xx,fd12,m12,c,hx,q2]
 rw[decide_eq_true h1]at c
 by_cases h2:CV lo hi
 case neg=>rw[decide_eq_false h2]at c2;rw[decide_eq_false (fun h:MS x lo hi=>h2 h.2.1)];simp(disch:=((fail_if_success (intro _));omega)) only[go_sem,simprocAttr,↓reduceIte,↓Nat.reduceEqDiff,xx,fd12,m12,c,c2,hx,q2]
 rw[decide_eq_true h2]at c2
 by_cases h3:hi<x.le.til
 case neg=>rw[decide_eq_false h3]at c3;rw[decide_eq_false (fun h:MS x lo hi=>h3 h.2.2)];simp(disch:=((fail_if_success (intro _));omega)) only[go_sem,simprocAttr,↓reduceIte,↓Nat.reduceEqDiff,xx,fd12,m12,c,c2,c3,hx,q2]
 rw[decide_eq_true h3]at c3
 rw[decide_eq_true (show MS x lo hi from⟨h1,h2,h3⟩)]
 simp(disch:=((fail_if_success (intro _));omega)) only[go_sem,simprocAttr,↓reduceIte,↓Nat.reduceEqDiff,xx,fd12,m12,c,c2,c3,hx,q2]
abbrev z22 :AV:=.agg [.int .i64 0,.int .i64 0,.agg [.int .i64 0,.int .i64 0,.int .i64 0,.int .i64 0,.agg H.out16l]]
theorem hear_bad (h:3<=n)(x:Hd)(hx:x.le.sgn.length=16){e:Int}(hb:¬(HV x/\0<=e/\e<=1099511627776)):call gl tab n 6 [hAV x,i64 e] []=some (.tup [hAV x,i64 1],[],[]):=by
 obtain⟨d,rfl⟩:=Nat.exists_eq_add_of_le' h
 have c:=@held_at gl (d+2) (by omega) x hx
 have q2:=H.bytes_all x.le.sgn
 rw[call_go (fd:=fd6) rfl]
 by_cases h1:HV x
 case neg=>rw[decide_eq_false h1]at c;simp(disch:=((fail_if_success (intro _));omega)) only[go_sem,simprocAttr,↓reduceIte,↓Nat.reduceEqDiff,xx,fd6,m6,↓out16_eq,H.out16_len,H.out16_all,H.out16_pl,c,hx,q2]
 rw[decide_eq_true h1]at c
 by_cases h2:0<=e
 case neg=>simp(disch:=((fail_if_success (intro _));omega)) only[go_sem,simprocAttr,↓reduceIte,↓Nat.reduceEqDiff,xx,fd6,m6,↓out16_eq,H.out16_len,H.out16_all,H.out16_pl,c,hx,q2]
 have h3:¬e<=1099511627776:=fun h=>hb ⟨h1,h2,h⟩
 simp(disch:=((fail_if_success (intro _));omega)) only[go_sem,simprocAttr,↓reduceIte,↓Nat.reduceEqDiff,xx,fd6,m6,↓out16_eq,H.out16_len,H.out16_all,H.out16_pl,c,hx,q2]
def mx (a b:Int):Int:=if a<b then b else a
theorem hear_ok (h:3<=n)(x:Hd)(hx:x.le.sgn.length=16){e:Int}(h1:HV x)(h2:0<=e)(h3:e<=1099511627776):call gl tab n 6 [hAV x,i64 e] []=some (.tup [hAV ⟨x.s,mx x.h e,x.le⟩,i64 0],[],[]):=by
 obtain⟨d,rfl⟩:=Nat.exists_eq_add_of_le' h
 have c:=@held_at gl (d+2) (by omega) x hx
 rw[decide_eq_true h1]at c
 have q2:=H.bytes_all x.le.sgn
 obtain⟨w,hw,w1,w2,w3⟩:=max_ex x.h e
 have e1:mx x.h e=w:=by unfold mx;split<;>omega
 rw[e1]
 rw[call_go (fd:=fd6) rfl]
 simp(disch:=((fail_if_success (intro _));omega)) only[go_sem,simprocAttr,↓reduceIte,↓Nat.reduceEqDiff,xx,fd6,m6,↓out16_eq,H.out16_len,H.out16_all,H.out16_pl,c,hx,q2,hw]
def tkE (ring:List Ky)(x:Hd)(l:Le):Hd×Int :=
 if ¬(HV x/\l.site=x.s)then(x,1)else if leC ring l≠0 then(x,leC ring l)else if x.h<l.ep then(x,4)else if l.til<=x.le.til then(x,0)else(⟨x.s,x.h,l⟩,0)
theorem take_at [Nonempty (GlK gl)](h:13<=n){f:Bool}{sh:Sh}{ring:List Ky}(hm:Mk ring sh)(hv:VR ring)(x:Hd)(hx:x.le.sgn.length=16)(l:Le)(hl:LeOk l) :
  call gl tab n 7 [.lst f sh (ks ring),hAV x,leAV l] []=some (.tup [hAV (tkE ring x l).1,i64 (tkE ring x l).2],[],[]):=by
 obtain⟨d,rfl⟩:=Nat.exists_eq_add_of_le' h
 have c:=@held_at gl (d+12) (by omega) x hx
 have c2:=leC_at (gl:=gl) (n:=d+12) (f:=f) (by omega) hm hv l hl
 have q2:=H.bytes_all x.le.sgn
 have q3:=H.bytes_all l.sgn
 have q4:=hl.s
 have b1:(bytesAV l.sgn).length=16:=by rw[bytesAV_length];exact hl.s
 unfold tkE
 generalize leC ring l=z at *
 rw[call_go (fd:=fd7) rfl]
 by_cases h1:HV x
 case neg =>
  rw[decide_eq_false h1]at c
  rw[if_pos (fun h=>h1 h.1)]
  simp(disch:=((fail_if_success (intro _));omega)) only[go_sem,simprocAttr,↓reduceIte,↓Nat.reduceEqDiff,xx,fd7,m7,↓out16_eq,H.out16_len,H.out16_all,H.out16_pl,c,hx,q2,q3,q4]
 rw[decide_eq_true h1]at c
 by_cases h2:l.site=x.s
 case neg =>
  rw[if_pos (fun h=>h2 h.2)]
  have hb:(l.site != x.s)=true:=by rw[bne_iff_ne];exact h2
  simp(disch:=((fail_if_success (intro _));omega)) only[go_sem,simprocAttr,↓reduceIte,↓Nat.reduceEqDiff,xx,fd7,m7,↓out16_eq,H.out16_len,H.out16_all,H.out16_pl,c,hx,q2,q3,q4,hb]
 have hb:(l.site != x.s)=false:=by rw[h2];exact bne_self_eq_false _
 rw[if_neg (fun h=>h ⟨h1,h2⟩)]
 by_cases h3:z=0
 case neg =>
  rw[if_pos h3]
  have hz:(z != 0)=true:=by rw[bne_iff_ne];exact h3
  simp(disch:=((fail_if_success (intro _));omega)) only[go_sem,simprocAttr,↓reduceIte,↓Nat.reduceEqDiff,xx,fd7,m7,↓out16_eq,H.out16_len,H.out16_all,H.out16_pl,c,c2,hx,q2,q3,q4,hb,hz]
 subst h3
 rw[if_neg (by simp)]
 by_cases h4:x.h<l.ep
 . rw[if_pos h4]
   simp(disch:=((fail_if_success (intro _));omega)) only[go_sem,simprocAttr,↓reduceIte,↓Nat.reduceEqDiff,xx,fd7,m7,↓out16_eq,H.out16_len,H.out16_all,H.out16_pl,c,c2,hx,q2,q3,q4,hb]
 rw[if_neg h4]
 by_cases h5:l.til<=x.le.til
 . rw[if_pos h5]
   simp(disch:=((fail_if_success (intro _));omega)) only[go_sem,simprocAttr,↓reduceIte,↓Nat.reduceEqDiff,xx,fd7,m7,↓out16_eq,H.out16_len,H.out16_all,H.out16_pl,c,c2,hx,q2,q3,q4,hb]
 . rw[if_neg h5]
   simp(disch:=((fail_if_success (intro _));omega)) only[go_sem,simprocAttr,↓reduceIte,↓Nat.reduceEqDiff,xx,fd7,m7,↓out16_eq,H.out16_len,H.out16_all,H.out16_pl,c,c2,hx,q2,q3,q4,hb]
end Go.Proofs.S90.G
namespace Go.Proofs.S90.G
open Go Go.Ev Go.Proofs Go.Ck
variable {gl :Gl} {n:Nat}
structure Cl where
 l:Int
 lo:Int
 hi:Int
 d:Int
abbrev cAV (c:Cl):AV:=.agg [i64 c.l,.agg [i64 c.lo,i64 c.hi],i64 c.d]
def CK (c:Cl):Prop:=(0<=c.l/\c.l<=2199023255552)/\CV c.lo c.hi/\0<=c.d/\c.d<=100000
instance (c :Cl):Decidable (CK c):=by unfold CK;infer_instance
theorem check_at (h:2<=n)(c:Cl):call gl tab n 26 [cAV c] []=some (i64 (if CK c then 0 else 1),[],[]):=by
 obtain⟨d,rfl⟩:=Nat.exists_eq_add_of_le' h
 have c2:=@cvalid_at gl (d+1) (by omega) c.lo c.hi
 rw[call_go (fd:=fd26) rfl]
 by_cases h1:0<=c.l
 case neg=>rw[if_neg (fun h:CK c=>h1 h.1.1)];simp(disch:=((fail_if_success (intro _));omega)) only[go_sem,simprocAttr,↓reduceIte,↓Nat.reduceEqDiff,xx,fd26,m26,c2]
 by_cases h2:c.l<=2199023255552
 case neg=>rw[if_neg (fun h:CK c=>h2 h.1.2)];simp(disch:=((fail_if_success (intro _));omega)) only[go_sem,simprocAttr,↓reduceIte,↓Nat.reduceEqDiff,xx,fd26,m26,c2]
 by_cases h3:CV c.lo c.hi
 case neg=>rw[if_neg (fun h:CK c=>h3 h.2.1)];rw[decide_eq_false h3]at c2;simp(disch:=((fail_if_success (intro _));omega)) only[go_sem,simprocAttr,↓reduceIte,↓Nat.reduceEqDiff,xx,fd26,m26,c2]
 rw[decide_eq_true h3]at c2
 by_cases h4:0<=c.d
 case neg=>rw[if_neg (fun h:CK c=>h4 h.2.2.1)];simp(disch:=((fail_if_success (intro _));omega)) only[go_sem,simprocAttr,↓reduceIte,↓Nat.reduceEqDiff,xx,fd26,m26,c2]
 by_cases h5:c.d<=100000
 case neg=>rw[if_neg (fun h:CK c=>h5 h.2.2.2)];simp(disch:=((fail_if_success (intro _));omega)) only[go_sem,simprocAttr,↓reduceIte,↓Nat.reduceEqDiff,xx,fd26,m26,c2]
 rw[if_pos (show CK c from⟨⟨h1,h2⟩,h3,h4,h5⟩)]
 simp(disch:=((fail_if_success (intro _));omega)) only[go_sem,simprocAttr,↓reduceIte,↓Nat.reduceEqDiff,xx,fd26,m26,c2]
structure CN (c:Cl)(l a b d:Nat):Prop where
 el:c.l=l
 ea:c.lo=a
 eb:c.hi=b
 ed:c.d=d
 l1:l<=2199023255552
 ab:a<=b
 b1:b<=1099511627776
 d1:d<=100000
theorem CK.nat {c:Cl}(h:CK c):∃l a b d,CN c l a b d:=by
 obtain⟨⟨h1,h2⟩,⟨h3,h4,h5⟩,h6,h7⟩:=h
 exact⟨c.l.toNat,c.lo.toNat,c.hi.toNat,c.d.toNat,by omega,by omega,by omega,by omega,by omega,by omega,by omega,by omega⟩
theorem quoN {y z:Nat}(h:0<z)(hy:y<=4611686018427387904):binInt .quo .i64 (y:Int) (z:Int)=some (i64 ((y/z:Nat):Int)):=by
 show(if(z:Int)=0 then none else some (AV.int .i64 (IntKind.i64.wrap ((y:Int).tdiv z))))=_
 have:=Nat.div_le_self y z
 rw[if_neg (by omega),show(y:Int).tdiv z=((y/z:Nat):Int)from rfl]
 generalize y/z=q at *
 rw[wrap_i64 (by omega) (by omega)]
theorem read_at (h:1<=n){c:Cl}{l a b d:Nat}(hc:CN c l a b d){j:Nat}(hj:l+j<=2199023255552) :
  call gl tab n 66 [cAV c,i64 ((l+j:Nat):Int)] []=some (.tup [.agg [i64 (loN a d j),i64 (hiN b d j)],i64 0],[],[]):=by
 obtain⟨e,rfl⟩:=Nat.exists_eq_add_of_le' h
 obtain⟨cl,clo,chi,cd⟩:=c
 obtain⟨h1,h2,h3,h4,h5,h6,h7,h8⟩:=hc
 simp only at h1 h2 h3 h4
 subst h1 h2 h3 h4
 obtain⟨w,hw,w1,w2,w3⟩:=max_ex ((j:Int)-1) 0
 have hwn:w=((j-1:Nat):Int):=by omega
 have hq1:(j-1)*1000000<=2199023255552000000:=by omega
 obtain⟨F,hF⟩:∃F,F=1000000+d:=⟨_,rfl⟩
 obtain⟨G,hG⟩:∃G,G=1000000-d:=⟨_,rfl⟩
 obtain⟨y1,hy1⟩:∃y,y=(j-1)*1000000+F-1:=⟨_,rfl⟩
 obtain⟨y2,hy2⟩:∃y,y=(j+1)*1000000:=⟨_,rfl⟩
 have e3:(1000000:Int)+(d:Int)=(F:Int):=by omega
 have e4:(1000000:Int)-(d:Int)=(G:Int):=by omega
 have e1:((j-1:Nat):Int)*1000000+(F:Int)-1=(y1:Int):=by omega
 have e2:((j:Int)+1)*1000000=(y2:Int):=by omega
 have hF0:0<F:=by omega
 have hG0:0<G:=by omega
 have hy3:y1<=2199023255553000000:=by omega
 have hy4:y2<=2199023255553000000:=by omega
 have d1:=quoN (y:=y1) (z:=F) hF0 (by omega)
 have d2:=quoN (y:=y2) (z:=G) hG0 (by omega)
 have b1:y1/F<=y1:=Nat.div_le_self _ _
 have b2:y2/G<=y2:=Nat.div_le_self _ _
 have f1:loN a d j=min (a+y1/F) 1099511627776:=by rw[hy1,hF,loN]
 have f2:hiN b d j=min (b+y2/G) 1099511627776:=by rw[hy2,hG,hiN]
 generalize y1/F=A at *
 generalize y2/G=B at *
 obtain⟨u,hu,u1,u2,u3⟩:=min_ex ((a:Int)+(A:Int)) 1099511627776
 obtain⟨v,hv,v1,v2,v3⟩:=min_ex ((b:Int)+(B:Int)) 1099511627776
 have g1:((loN a d j:Nat):Int)=u:=by rw[f1];omega
 have g2:((hiN b d j:Nat):Int)=v:=by rw[f2];omega
 rw[g1,g2]
 have s1:((l+j:Nat):Int)-(l:Int)=(j:Int):=by omega
 have s2:((l+j:Nat):Int)<=2199023255552:=by omega
 have s3:(l:Int)<=((l+j:Nat):Int):=by omega
 clear f1 f2 g1 g2
 generalize ((l+j:Nat):Int)=z at *
 rw[call_go (fd:=fd66) rfl]
 subst hwn
 generalize hx:((j-1:Nat):Int)=x at *
 have hx2:0<=x/\x<=2199023255552:=by omega
 simp(implicitDefEqProofs:=false) (disch:=((fail_if_success (intro _));omega)) only[go_sem,simprocAttr,↓reduceIte,↓Nat.reduceEqDiff,xx,fd66,m66,hw,d1,d2,s1,e1,e2,e3,e4,hu,hv]
end Go.Proofs.S90.G
