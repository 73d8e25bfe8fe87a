/-
  Chapter 30: deadlines, and who is waited for. No condition.
-/
import Derived.Test.YtjenmopgcpnklaaDoorW30G15x5
set_option linter.unusedVariables false
set_option linter.unusedSimpArgs false
set_option linter.unusedSectionVars false
namespace Go.Proofs.S30.G
open Go Go.Ev Go.Proofs
variable {gl :Gl} {n:Nat}
def mxU (l:List Gt):Nat->Int
 | 0=>0
 | j+1=>if mxU l j<(gat l j).u then(gat l j).u else mxU l j
def L12 :MC:=match m12 with| .seq _ (.seq _ (.seq _ (.seq (.seq _ (.block _ (.loop _ b))) _)))=>b|_=>.skip
def S12 (l:List Gt)(f:Bool)(sh:Sh)(e:Int)(j:Nat):St:=⟨[.set 19 (i64 j),.set 18 (i64 l.length),.set 17 (.lst f sh (gs l)),.set 8 (i64 (mxU l j)),.set 7 (i64 e)],[]⟩
theorem step12 {d:Nat}{l:List Gt}{f:Bool}{e:Int}(hl:l.length<=1000000)(j:Nat)(hj:j<l.length) :
  contK [.slot 7,.slot 8,.slot 17,.slot 18,.slot 19] (evC gl (call gl tab d) L12 (S12 l f sG e j))=some (S12 l f sG e (j+1)):=by
 have hL:=gs_length l
 have hx:=gs_at hj
 obtain⟨w,hw,w1,w2,w3⟩:=max_ex (mxU l j) (gat l j).u
 have e1:mxU l (j+1)=w:=by rw[mxU];split<;>omega
 rw[S12,S12,e1]
 generalize mxU l j=y at *
 generalize gat l j=x at *
 simp(disch:=((fail_if_success (intro _));omega)) only[go_sem,simprocAttr,↓reduceIte,↓Nat.reduceEqDiff,xx,L12,m12,hL,hx,hw]
section
variable {t m:Int} {f:Bool} {sh:Sh} {l:List Gt} {e:Int}
theorem dead_bad (h:4<=n)(hm:Mg l sh)(hl:l.length<=1000000)(hb:¬(VG t m l/\1<=e/\e<=t)):call gl tab n 12 [gAV t m f sh l,i64 e] []=some (.tup [i64 0,i64 1],[],[]):=by
 obtain⟨d,rfl⟩:=Nat.exists_eq_add_of_le' h
 have c:=deaf_bad (gl:=gl) (n:=d+3) (by omega) (f:=f) hm hl hb
 rw[call_go (fd:=fd12) rfl]
 simp(disch:=((fail_if_success (intro _));omega)) only[go_sem,simprocAttr,↓reduceIte,↓Nat.reduceEqDiff,xx,fd12,m12,c]
 rw[iter_to (S12 [] true .sc 1) 0 (by unfold LF;omega)]
 . rw[S12,mxU];simp(disch:=((fail_if_success (intro _));omega)) only[go_sem,simprocAttr,↓reduceIte,↓Nat.reduceEqDiff,xx]
 . rw[S12,mxU];simp(disch:=((fail_if_success (intro _));omega)) only[go_sem,simprocAttr,↓reduceIte,↓Nat.reduceEqDiff,xx];rfl
 . intro i hi;omega
 . rw[S12,mxU];simp(disch:=((fail_if_success (intro _));omega)) only[go_sem,simprocAttr,↓reduceIte,↓Nat.reduceEqDiff,xx]
theorem dead_ok (h:5<=n)(hm:Mg l sh)(hl:l.length<=1000000)(hv:VG t m l)(h1:1<=e)(h2:e<=t):call gl tab n 12 [gAV t m f sh l,i64 e] []=some (.tup [i64 (mxU (df e l) (df e l).length),i64 0],[],[]):=by
 obtain⟨d,rfl⟩:=Nat.exists_eq_add_of_le' h
 have c:=deaf_ok (gl:=gl) (n:=d+4) (by omega) (f:=f) hm hl hv h1 h2
 have hd:(df e l).length<=1000000:=by have:=List.length_filter_le (keep e) l;unfold df;omega
 generalize df e l=q at *
 have hL:=gs_length q
 have st:=fun j hj=>@step12 gl (d+4) q false 0 hd j hj
 simp only[L12,m12]at st
 rw[call_go (fd:=fd12) rfl]
 simp(disch:=((fail_if_success (intro _));omega)) only[go_sem,simprocAttr,↓reduceIte,↓Nat.reduceEqDiff,xx,fd12,m12,c,hL]
 rw[iter_to (S12 q false sG 0) q.length (by unfold LF;omega)]
 . rw[S12]
   generalize mxU q q.length=w at *
   simp(disch:=((fail_if_success (intro _));omega)) only[go_sem,simprocAttr,↓reduceIte,↓Nat.reduceEqDiff,xx,hL]
 . rw[S12,mxU];simp(disch:=((fail_if_success (intro _));omega)) only[go_sem,simprocAttr,↓reduceIte,↓Nat.reduceEqDiff,xx,hL]
 . exact st
 . rw[S12];simp(disch:=((fail_if_success (intro _));omega)) only[go_sem,simprocAttr,↓reduceIte,↓Nat.reduceEqDiff,xx,hL]
end
def ints (l:List Int):List AV:=l.map fun x=>i64 x
theorem ints_length (l:List Int):(ints l).length=l.length:=by simp[ints]
theorem ints_app (l:List Int)(x:Int):ints (l++[x])=ints l++[i64 x]:=by simp[ints]
theorem ints_noImms :∀(l:List Int),noImms (ints l)=true
 | []=>rfl
 | x::l=>by
   have:=ints_noImms l
   rw[ints,List.map_cons,noImms,<-ints,this];rfl
def wai (lo:Int)(l:List Gt):Nat->List Int
 | 0=>[]
 | j+1=>if lo<(gat l j).u then wai lo l j++[(gat l j).s]else wai lo l j
theorem wai_le (lo:Int)(l:List Gt):∀j,(wai lo l j).length<=j
 | 0=>Nat.le_refl _
 | j+1=>by
   have:=wai_le lo l j
   rw[wai];split
   . rw[List.length_append,List.length_singleton];omega
   . omega
def L13 :MC:=match m13 with| .seq _ (.seq _ (.seq _ (.seq _ (.seq (.seq _ (.block _ (.loop _ b))) _))))=>b|_=>.skip
def S13 (lo hi:Int)(l:List Gt)(j:Nat):St:=⟨[.set 28 (i64 j),.set 27 (i64 l.length),.set 26 (.lst false sG (gs l)),.set 10 (.sl 5010 [] 0 (wai lo l j).length),.set 5 (.ptr 5 [])],[(5,.fix (.st [.sc,.sc]) (.agg [i64 lo,i64 hi])),(5010,.grow .sc (ints (wai lo l j)))]⟩
theorem step13 {d:Nat}{l:List Gt}{lo hi:Int}(hl:l.length<=1000000)(j:Nat)(hj:j<l.length) :
  contK [.slot 5,.own 10 5010 .sc,.slot 26,.slot 27,.slot 28,.key 5] (evC gl (call gl tab d) L13 (S13 lo hi l j))=some (S13 lo hi l (j+1)):=by
 have hL:=gs_length l
 have hx:=gs_at hj
 have hle:=wai_le lo l j
 have hI:=ints_length (wai lo l j)
 have hT:List.take (wai lo l j).length (ints (wai lo l j))=ints (wai lo l j):=List.take_of_length_le (by omega)
 have hlim:(wai lo l j).length+1<=LIM:=by unfold LIM;omega
 have n1:=ints_noImms (wai lo l j)
 rw[S13,S13,wai]
 by_cases hk:lo<(gat l j).u
 . rw[if_pos hk,ints_app,List.length_append,List.length_singleton]
   generalize ints (wai lo l j)=q at *
   generalize (wai lo l j).length=i at *
   generalize gat l j=x at *
   simp(disch:=((fail_if_success (intro _));omega)) only[go_sem,simprocAttr,↓reduceIte,↓Nat.reduceEqDiff,xx,L13,m13,hL,hx,hI,hT,n1]
 . rw[if_neg hk]
   generalize ints (wai lo l j)=q at *
   generalize (wai lo l j).length=i at *
   generalize gat l j=x at *
   simp(disch:=((fail_if_success (intro _));omega)) only[go_sem,simprocAttr,↓reduceIte,↓Nat.reduceEqDiff,xx,L13,m13,hL,hx,hI,hT,n1]
section
variable {t m:Int} {f:Bool} {sh:Sh} {l:List Gt} {e lo hi:Int}
theorem wait_bad (h:5<=n)(hm:Mg l sh)(hl:l.length<=1000000)(hb:¬(VG t m l/\1<=e/\e<=t/\CV lo hi)):call gl tab n 13 [gAV t m f sh l,i64 e,.agg [i64 lo,i64 hi]] []=some (.tup [.lst true .sc [],i64 1],[],[]):=by
 obtain⟨d,rfl⟩:=Nat.exists_eq_add_of_le' h
 by_cases hg:VG t m l/\1<=e/\e<=t
 . have c:=deaf_ok (gl:=gl) (n:=d+4) (by omega) (f:=f) hm hl hg.1 hg.2.1 hg.2.2
   have c2:=@cvalid_at gl (d+4) (by omega) lo hi
   rw[decide_eq_false (fun hc=>hb ⟨hg.1,hg.2.1,hg.2.2,hc⟩)]at c2
   rw[call_go (fd:=fd13) rfl]
   simp(disch:=((fail_if_success (intro _));omega)) only[go_sem,simprocAttr,↓reduceIte,↓Nat.reduceEqDiff,xx,fd13,m13,c,c2]
 . have c:=deaf_bad (gl:=gl) (n:=d+4) (by omega) (f:=f) hm hl hg
   rw[call_go (fd:=fd13) rfl]
   simp(disch:=((fail_if_success (intro _));omega)) only[go_sem,simprocAttr,↓reduceIte,↓Nat.reduceEqDiff,xx,fd13,m13,c]
theorem wait_ok (h:5<=n)(hm:Mg l sh)(hl:l.length<=1000000)(hv:VG t m l)(h1:1<=e)(h2:e<=t)(hc:CV lo hi) :
  call gl tab n 13 [gAV t m f sh l,i64 e,.agg [i64 lo,i64 hi]] []=some (.tup [.lst false .sc (ints (wai lo (df e l) (df e l).length)),i64 0],[],[]):=by
 obtain⟨d,rfl⟩:=Nat.exists_eq_add_of_le' h
 have c:=deaf_ok (gl:=gl) (n:=d+4) (by omega) (f:=f) hm hl hv h1 h2
 have c2:=@cvalid_at gl (d+4) (by omega) lo hi
 rw[decide_eq_true hc]at c2
 have hd:(df e l).length<=1000000:=by have:=List.length_filter_le (keep e) l;unfold df;omega
 generalize df e l=q at *
 have hL:=gs_length q
 have st:=fun j hj=>@step13 gl (d+4) q lo hi hd j hj
 have hI:=ints_length (wai lo q q.length)
 have hT:List.take (wai lo q q.length).length (ints (wai lo q q.length))=ints (wai lo q q.length):=List.take_of_length_le (by omega)
 simp only[L13,m13]at st
 rw[call_go (fd:=fd13) rfl]
 simp(disch:=((fail_if_success (intro _));omega)) only[go_sem,simprocAttr,↓reduceIte,↓Nat.reduceEqDiff,xx,fd13,m13,c,c2,hL]
 rw[iter_to (S13 lo hi q) q.length (by unfold LF;omega)]
 . rw[S13]
   generalize wai lo q q.length=w at *
   simp(disch:=((fail_if_success (intro _));omega)) only[go_sem,simprocAttr,↓reduceIte,↓Nat.reduceEqDiff,xx,hL,hI,hT]
 . rw[S13,wai];simp(disch:=((fail_if_success (intro _));omega)) only[go_sem,simprocAttr,↓reduceIte,↓Nat.reduceEqDiff,xx,hL];rfl
 . exact st
 . rw[S13];simp(disch:=((fail_if_success (intro _));omega)) only[go_sem,simprocAttr,↓reduceIte,↓Nat.reduceEqDiff,xx,hL]
end
end Go.Proofs.S30.G
namespace Go.Proofs.S30.G
open Go Go.Ev Go.Proofs
open Go.Proofs.S30.H (GlK GlR)
variable {gl :Gl} {n:Nat}
structure Hd where
 s:Int
 h:Int
 le:Le
abbrev hAV (x:Hd):AV:=.agg [i64 x.s,i64 x.h,.agg [i64 x.le.site,i64 x.le.ep,i64 x.le.til,i64 x.le.ser,.agg (bytesAV x.le.sgn)]]
def HV (x:Hd):Prop:=isSite x.s=true/\(0<=x.h/\x.h<=1099511627776)/\0<=x.le.til/\x.le.til<=1099511627776
instance (x :Hd):Decidable (HV x):=by unfold HV;infer_instance
theorem held_at (h:2<=n)(x:Hd)(hx:x.le.sgn.length=16):call gl tab n 44 [hAV x] []=some (.bool (decide (HV x)),[],[]):=by
 obtain⟨d,rfl⟩:=Nat.exists_eq_add_of_le' h
 have c:=@isite_at gl (d+1) (by omega) x.s
 have q2:=H.bytes_all x.le.sgn
 rw[call_go (fd:=fd44) rfl]
 by_cases h0:isSite x.s=true
 case neg=>rw[decide_eq_false (fun h:HV x=>h0 h.1)];rw[Bool.not_eq_true]at h0;rw[h0]at c;simp(disch:=((fail_if_success (intro _));omega)) only[go_sem,simprocAttr,↓reduceIte,↓Nat.reduceEqDiff,xx,fd44,m44,c,hx,q2]
 rw[h0]at c
 by_cases h1:0<=x.h
 case neg=>rw[decide_eq_false (fun h:HV x=>h1 h.2.1.1)];simp(disch:=((fail_if_success (intro _));omega)) only[go_sem,simprocAttr,↓reduceIte,↓Nat.reduceEqDiff,xx,fd44,m44,c,hx,q2]
 by_cases h2:x.h<=1099511627776
 case neg=>rw[decide_eq_false (fun h:HV x=>h2 h.2.1.2)];simp(disch:=((fail_if_success (intro _));omega)) only[go_sem,simprocAttr,↓reduceIte,↓Nat.reduceEqDiff,xx,fd44,m44,c,hx,q2]
 by_cases h3:0<=x.le.til
 case neg=>rw[decide_eq_false (fun h:HV x=>h3 h.2.2.1)];simp(disch:=((fail_if_success (intro _));omega)) only[go_sem,simprocAttr,↓reduceIte,↓Nat.reduceEqDiff,xx,fd44,m44,c,hx,q2]
 by_cases h4:x.le.til<=1099511627776
 case neg=>rw[decide_eq_false (fun h:HV x=>h4 h.2.2.2)];simp(disch:=((fail_if_success (intro _));omega)) only[go_sem,simprocAttr,↓reduceIte,↓Nat.reduceEqDiff,xx,fd44,m44,c,hx,q2]
 rw[decide_eq_true (show HV x from⟨h0,⟨h1,h2⟩,h3,h4⟩)]
 simp(disch:=((fail_if_success (intro _));omega)) only[go_sem,simprocAttr,↓reduceIte,↓Nat.reduceEqDiff,xx,fd44,m44,c,hx,q2]
theorem before_at (h:1<=n)(lo hi t:Int):call gl tab n 49 [.agg [i64 lo,i64 hi],i64 t] []=some (.bool (decide (hi<t)),[],[]):=by
 obtain⟨d,rfl⟩:=Nat.exists_eq_add_of_le' h
 rw[call_go (fd:=fd49) rfl]
 simp(disch:=((fail_if_success (intro _));omega)) only[go_sem,simprocAttr,↓reduceIte,↓Nat.reduceEqDiff,xx,fd49,m49]
def MS (x:Hd)(lo hi:Int):Prop:=HV x/\CV lo hi/\hi<x.le.til
instance (x :Hd) (lo hi:Int):Decidable (MS x lo hi):=by unfold MS;infer_instance
theorem serve_at (h:3<=n)(x:Hd)(hx:x.le.sgn.length=16)(lo hi:Int):call gl tab n 32 [hAV x,.agg [i64 lo,i64 hi]] []=some (.bool (decide (MS x lo hi)),[],[]):=by
 obtain⟨d,rfl⟩:=Nat.exists_eq_add_of_le' h
 have c:=@held_at gl (d+2) (by omega) x hx
 have c2:=@cvalid_at gl (d+2) (by omega) lo hi
 have c3:=@before_at gl (d+2) (by omega) lo hi x.le.til
 have q2:=H.bytes_all x.le.sgn
 rw[call_go (fd:=fd32) rfl]
 by_cases h1:HV x
 case neg=>rw[decide_eq_false h1]at c;rw[decide_eq_false (fun h:MS x lo hi=>h1 h.1)];simp(disch:=((fail_if_success (intro _));omega)) only[go_sem,simprocAttr,↓reduceIte,↓Nat.reduceEqDiff,xx,fd32,m32,c,hx,q2]
 rw[decide_eq_true h1]at c
 by_cases h2:CV lo hi
 case neg=>rw[decide_eq_false h2]at c2;rw[decide_eq_false (fun h:MS x lo hi=>h2 h.2.1)];simp(disch:=((fail_if_success (intro _));omega)) only[go_sem,simprocAttr,↓reduceIte,↓Nat.reduceEqDiff,xx,fd32,m32,c,c2,hx,q2]
 rw[decide_eq_true h2]at c2
 by_cases h3:hi<x.le.til
 case neg=>rw[decide_eq_false h3]at c3;rw[decide_eq_false (fun h:MS x lo hi=>h3 h.2.2)];simp(disch:=((fail_if_success (intro _));omega)) only[go_sem,simprocAttr,↓reduceIte,↓Nat.reduceEqDiff,xx,fd32,m32,c,c2,c3,hx,q2]
 rw[decide_eq_true h3]at c3
 rw[decide_eq_true (show MS x lo hi from⟨h1,h2,h3⟩)]
 simp(disch:=((fail_if_success (intro _));omega)) only[go_sem,simprocAttr,↓reduceIte,↓Nat.reduceEqDiff,xx,fd32,m32,c,c2,c3,hx,q2]
abbrev z22 :AV:=.agg [.int .i64 0,.int .i64 0,.agg [.int .i64 0,.int .i64 0,.int .i64 0,.int .i64 0,.agg H.out16l]]
theorem hear_bad (h:3<=n)(x:Hd)(hx:x.le.sgn.length=16){e:Int}(hb:¬(HV x/\0<=e/\e<=1099511627776)):call gl tab n 46 [hAV x,i64 e] []=some (.tup [hAV x,i64 1],[],[]):=by
 obtain⟨d,rfl⟩:=Nat.exists_eq_add_of_le' h
 have c:=@held_at gl (d+2) (by omega) x hx
 have q2:=H.bytes_all x.le.sgn
 rw[call_go (fd:=fd46) rfl]
 by_cases h1:HV x
 case neg=>rw[decide_eq_false h1]at c;simp(disch:=((fail_if_success (intro _));omega)) only[go_sem,simprocAttr,↓reduceIte,↓Nat.reduceEqDiff,xx,fd46,m46,↓out16_eq,H.out16_len,H.out16_all,H.out16_pl,c,hx,q2]
 rw[decide_eq_true h1]at c
 by_cases h2:0<=e
 case neg=>simp(disch:=((fail_if_success (intro _));omega)) only[go_sem,simprocAttr,↓reduceIte,↓Nat.reduceEqDiff,xx,fd46,m46,↓out16_eq,H.out16_len,H.out16_all,H.out16_pl,c,hx,q2]
 have h3:¬e<=1099511627776:=fun h=>hb ⟨h1,h2,h⟩
 simp(disch:=((fail_if_success (intro _));omega)) only[go_sem,simprocAttr,↓reduceIte,↓Nat.reduceEqDiff,xx,fd46,m46,↓out16_eq,H.out16_len,H.out16_all,H.out16_pl,c,hx,q2]
def mx (a b:Int):Int:=if a<b then b else a
theorem hear_ok (h:3<=n)(x:Hd)(hx:x.le.sgn.length=16){e:Int}(h1:HV x)(h2:0<=e)(h3:e<=1099511627776):call gl tab n 46 [hAV x,i64 e] []=some (.tup [hAV ⟨x.s,mx x.h e,x.le⟩,i64 0],[],[]):=by
 obtain⟨d,rfl⟩:=Nat.exists_eq_add_of_le' h
 have c:=@held_at gl (d+2) (by omega) x hx
 rw[decide_eq_true h1]at c
 have q2:=H.bytes_all x.le.sgn
 obtain⟨w,hw,w1,w2,w3⟩:=max_ex x.h e
 have e1:mx x.h e=w:=by unfold mx;split<;>omega
 rw[e1]
 rw[call_go (fd:=fd46) rfl]
 simp(disch:=((fail_if_success (intro _));omega)) only[go_sem,simprocAttr,↓reduceIte,↓Nat.reduceEqDiff,xx,fd46,m46,↓out16_eq,H.out16_len,H.out16_all,H.out16_pl,c,hx,q2,hw]
def tkE (ring:List Ky)(x:Hd)(l:Le):Hd×Int :=
 if ¬(HV x/\l.site=x.s)then(x,1)else if leC ring l≠0 then(x,leC ring l)else if x.h<l.ep then(x,4)else if l.til<=x.le.til then(x,0)else(⟨x.s,x.h,l⟩,0)
theorem take_at [Nonempty (GlK gl)](h:13<=n){f:Bool}{sh:Sh}{ring:List Ky}(hm:Mk ring sh)(hv:VR ring)(x:Hd)(hx:x.le.sgn.length=16)(l:Le)(hl:LeOk l) :
  call gl tab n 26 [.lst f sh (ks ring),hAV x,leAV l] []=some (.tup [hAV (tkE ring x l).1,i64 (tkE ring x l).2],[],[]):=by
 obtain⟨d,rfl⟩:=Nat.exists_eq_add_of_le' h
 have c:=@held_at gl (d+12) (by omega) x hx
 have c2:=leC_at (gl:=gl) (n:=d+12) (f:=f) (by omega) hm hv l hl
 have q2:=H.bytes_all x.le.sgn
 have q3:=H.bytes_all l.sgn
 have q4:=hl.s
 have b1:(bytesAV l.sgn).length=16:=by rw[bytesAV_length];exact hl.s
 unfold tkE
 generalize leC ring l=z at *
 rw[call_go (fd:=fd26) rfl]
 by_cases h1:HV x
 case neg =>
  rw[decide_eq_false h1]at c
  rw[if_pos (fun h=>h1 h.1)]
  simp(disch:=((fail_if_success (intro _));omega)) only[go_sem,simprocAttr,↓reduceIte,↓Nat.reduceEqDiff,xx,fd26,m26,↓out16_eq,H.out16_len,H.out16_all,H.out16_pl,c,hx,q2,q3,q4]
 rw[decide_eq_true h1]at c
 by_cases h2:l.site=x.s
 case neg =>
  rw[if_pos (fun h=>h2 h.2)]
  have hb:(l.site != x.s)=true:=by rw[bne_iff_ne];exact h2
  simp(disch:=((fail_if_success (intro _));omega)) only[go_sem,simprocAttr,↓reduceIte,↓Nat.reduceEqDiff,xx,fd26,m26,↓out16_eq,H.out16_len,H.out16_all,H.out16_pl,c,hx,q2,q3,q4,hb]
 have hb:(l.site != x.s)=false:=by rw[h2];exact bne_self_eq_false _
 rw[if_neg (fun h=>h ⟨h1,h2⟩)]
 by_cases h3:z=0
 case neg =>
  rw[if_pos h3]
  have hz:(z != 0)=true:=by rw[bne_iff_ne];exact h3
  simp(disch:=((fail_if_success (intro _));omega)) only[go_sem,simprocAttr,↓reduceIte,↓Nat.reduceEqDiff,xx,fd26,m26,↓out16_eq,H.out16_len,H.out16_all,H.out16_pl,c,c2,hx,q2,q3,q4,hb,hz]
 subst h3
 rw[if_neg (by simp)]
 by_cases h4:x.h<l.ep
 . rw[if_pos h4]
   simp(disch:=((fail_if_success (intro _));omega)) only[go_sem,simprocAttr,↓reduceIte,↓Nat.reduceEqDiff,xx,fd26,m26,↓out16_eq,H.out16_len,H.out16_all,H.out16_pl,c,c2,hx,q2,q3,q4,hb]
 rw[if_neg h4]
 by_cases h5:l.til<=x.le.til
 . rw[if_pos h5]
   simp(disch:=((fail_if_success (intro _));omega)) only[go_sem,simprocAttr,↓reduceIte,↓Nat.reduceEqDiff,xx,fd26,m26,↓out16_eq,H.out16_len,H.out16_all,H.out16_pl,c,c2,hx,q2,q3,q4,hb]
 . rw[if_neg h5]
   simp(disch:=((fail_if_success (intro _));omega)) only[go_sem,simprocAttr,↓reduceIte,↓Nat.reduceEqDiff,xx,fd26,m26,↓out16_eq,H.out16_len,H.out16_all,H.out16_pl,c,c2,hx,q2,q3,q4,hb]
end Go.Proofs.S30.G
