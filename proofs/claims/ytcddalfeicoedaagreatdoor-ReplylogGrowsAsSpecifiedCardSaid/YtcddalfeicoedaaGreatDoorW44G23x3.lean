/-
  Chapter 44: ledgers that are the same. No condition.
-/
import Derived.Test.YtcddalfeicoedaaGreatDoorW44G21x3
import Derived.Test.YtcddalfeicoedaaGreatDoorW44G22x3
set_option linter.all false
open Nat renaming exists_eq_add_of_le'->wA,add_sub_cancel->wB,le_refl->wC
open List renaming take_of_length_le->wD,length_eq_zero_iff->wE,length_append->wF,length_nil->wG
namespace Go.Proofs.S44.L
open Go Go.Ev Go.Proofs Go.Proofs.S44
open Go.Proofs.S44.H (strsAV zaa zai Sml GlK GlR)
open Go.Proofs.S44.M (lf zcv Dg dgL dgL_length All16 Sd sB pkAV grw P8 R8 pv8)
variable {gl :Gl} {n:Nat}
structure RvS (gl:Gl)(x:Rv):Prop where
 sh:za2 rSh x.r=true
 s:∀n,10<=n->call gl tab n 35 [rvAV x,rvAV x] []=some (.bool true,[],[])
theorem zy0 {x:Re}(r:ReR x)(s:ReS x):RvS gl (toRv x):=⟨zi4 r,fun n h=>by rw[zk9];exact zzl h r s⟩
def L14 :MC:=match m14 with| .seq _ (.seq _ (.seq (.seq _ (.block _ (.loop _ b))) _))=>b|_=>.skip
def L14b :MC:=match m14 with| .seq _ (.seq _ (.seq _ (.seq (.seq _ (.block _ (.loop _ b))) _)))=>b|_=>.skip
def S14 (k:Nat)(a b:AV)(i:Nat):St:=⟨[.set k (i64 i),.set 3 (.ptr 3 []),.set 2 (.ptr 2 [])],[(3,.fix sLd b),(2,.fix sLd a)]⟩
section
variable {s z:Int} {f f2 f3 g g2 g3:Bool} {sh sh2 sh3 th th2 th3:Sh} {l:List Rv} {t:List Dg} {hs:List Hd}
theorem qd7 {d:Nat}(hd:10<=d)(hl:l.length<=800)(h2:Sr l sh)(h2':Sr l th)(ok:∀x∈l,RvS gl x){U V:List AV}(i:Nat)(hi:i<l.length) :
  zbd [.slot 2,.slot 3,.slot 5,.key 2,.key 3] (evC gl (call gl tab d) L14 (S14 5 (ldAV s f sh l z f2 sh2 t f3 sh3 U) (ldAV s g th l z g2 th2 t g3 th3 V) i))=some (S14 5 (ldAV s f sh l z f2 sh2 t f3 sh3 U) (ldAV s g th l z g2 th2 t g3 th3 V) (i+1)):=by
 obtain rfl:sh=sRe:=h2.resolve_left (fun e=>by subst e;simp at hi)
 obtain rfl:th=sRe:=h2'.resolve_left (fun e=>by subst e;simp at hi)
 have hx:=zhp hi
 have o:=ok _ (zfc hi)
 have h1:=o.sh
 have c:=o.s d hd
 have hL:=zaz l
 clear o
 generalize rat l i=y at *
 rw[S14,S14]
 simp(disch:=apply zq;omega) only[go_sem,simprocAttr,↓Nat.reduceEqDiff,xx,L14,m14,↓out16_eq,H.oo,hx,hL,h1,c]
theorem z9i {d:Nat}(h3:hs=[]\/sh3=sHd)(h3':hs=[]\/th3=sHd)(hhl:hs.length<=60000)(hh:∀y∈hs,HdOk y)(i:Nat)(hi:i<hs.length) :
  zbd [.slot 2,.slot 3,.slot 7,.key 2,.key 3] (evC gl (call gl tab d) L14b (S14 7 (ldAV s f sh l z f2 sh2 t f3 sh3 (hds hs)) (ldAV s g th l z g2 th2 t g3 th3 (hds hs)) i))=some (S14 7 (ldAV s f sh l z f2 sh2 t f3 sh3 (hds hs)) (ldAV s g th l z g2 th2 t g3 th3 (hds hs)) (i+1)):=by
 obtain rfl:sh3=sHd:=h3.resolve_left (fun e=>by subst e;simp at hi)
 obtain rfl:th3=sHd:=h3'.resolve_left (fun e=>by subst e;simp at hi)
 have hLh:=zbf hs
 have hy:=zeu hi
 have oy:=hh _ (zco hi)
 have eh:=eqHd oy oy
 rw[decide_eq_true rfl]at eh
 have u1:=b16 oy.r
 have u2:=b16 oy.s
 have w1:=H.bytes_all (hdat hs i).root
 have w2:=H.bytes_all (hdat hs i).sgn
 clear oy
 generalize hdat hs i=y at *
 rw[S14,S14]
 simp(disch:=apply zq;omega) only[go_sem,simprocAttr,↓Nat.reduceEqDiff,xx,L14b,m14,↓out16_eq,H.oo,hLh,hy,eh,u1,u2,w1,w2]
theorem zig (h:11<=n)(hl:l.length<=800)(h2:Sr l sh)(h2':Sr l th)(ok:∀x∈l,RvS gl x)(ht:t.length<=60000)(ha:All16 t)(h4:Sd t sh2 sB)(h4':Sd t th2 sB)
  (h3:hs=[]\/sh3=sHd) (h3':hs=[]\/th3=sHd) (hhl:hs.length<=60000) (hh:∀y∈hs,HdOk y) :
  call gl tab n 14 [ldAV s f sh l z f2 sh2 t f3 sh3 (hds hs),ldAV s g th l z g2 th2 t g3 th3 (hds hs)] []=some (.bool true,[],[]):=by
 obtain⟨d,rfl⟩:=wA h
 have hL:=zaz l
 have hLh:=zbf hs
 have c:=@M.same_dec gl (d+10) (by omega) f2 g2 sh2 th2 t t ha ha h4 h4' (by omega) (by omega)
 rw[decide_eq_true rfl]at c
 have st1:=fun i hi=>@qd7 gl s z f f2 f3 g g2 g3 sh sh2 sh3 th th2 th3 l t (d+10) (by omega) hl h2 h2' ok (hds hs) (hds hs) i hi
 have st2:=fun i hi=>@z9i gl s z f f2 f3 g g2 g3 sh sh2 sh3 th th2 th3 l t hs (d+10) h3 h3' hhl hh i hi
 simp only[L14,L14b,m14,↓out16_eq]at st1 st2
 rw[zad (fd:=fd14) rfl]
 simp(disch:=apply zq;omega) only[go_sem,simprocAttr,↓Nat.reduceEqDiff,xx,fd14,m14,↓out16_eq,H.oo,hL,hLh,c,bne_self_eq_false]
 rw[zag (S14 5 (ldAV s f sh l z f2 sh2 t f3 sh3 (hds hs)) (ldAV s g th l z g2 th2 t g3 th3 (hds hs))) l.length (by unfold LF;omega)]
 . rw[S14];simp(disch:=apply zq;omega) only[go_sem,simprocAttr,↓Nat.reduceEqDiff,xx,hL,hLh]
   rw[zag (S14 7 (ldAV s f sh l z f2 sh2 t f3 sh3 (hds hs)) (ldAV s g th l z g2 th2 t g3 th3 (hds hs))) hs.length (by unfold LF;omega)]
   . rw[S14];simp(disch:=apply zq;omega) only[go_sem,simprocAttr,↓Nat.reduceEqDiff,xx,hLh]
   . rw[S14];simp(disch:=apply zq;omega) only[go_sem,simprocAttr,↓Nat.reduceEqDiff,xx,hLh]
   . exact st2
   . rw[S14];simp(disch:=apply zq;omega) only[go_sem,simprocAttr,↓Nat.reduceEqDiff,xx,hLh]
 . rw[S14];simp(disch:=apply zq;omega) only[go_sem,simprocAttr,↓Nat.reduceEqDiff,xx,hL]
 . exact st1
 . rw[S14];simp(disch:=apply zq;omega) only[go_sem,simprocAttr,↓Nat.reduceEqDiff,xx,hL]
end
theorem z93 (h:2<=n)(a:Int):call gl tab n 12 [i64 a] []=some (.agg [if 0<=a/\a<64 then .agg [i64 a,.lst true .sc [],.agg [i64 0,.lst true .sc []],.lst true .sc []]else lz,hdL0,i64 (if 0<=a/\a<64 then 0 else 1)],[],[]):=by
 obtain⟨d,rfl⟩:=wA h
 have c:=@rsite_at gl (d+1) (by omega) a
 rw[zad (fd:=fd12) rfl]
 by_cases g:0<=a/\a<64
 . rw[decide_eq_true g]at c
   rw[if_pos g,if_pos g]
   simp(disch:=apply zq;omega) only[go_sem,simprocAttr,↓Nat.reduceEqDiff,xx,fd12,m12,↓out16_eq,H.oo,c]
 . rw[decide_eq_false g]at c
   rw[if_neg g,if_neg g]
   simp(disch:=apply zq;omega) only[go_sem,simprocAttr,↓Nat.reduceEqDiff,xx,fd12,m12,↓out16_eq,H.oo,c]
end Go.Proofs.S44.L
namespace Go.Proofs.S44.L
open Go Go.Ev Go.Proofs Go.Proofs.S44
open Go.Proofs.S44.H (strsAV zaa zai Sml GlK GlR)
open Go.Proofs.S44.M (lf zcv Dg dgL dgL_length All16 Sd sB pkAV grw P8 R8 pv8)
variable {gl :Gl} {n:Nat}
theorem z06 (h:1<=n)(a:Int):call gl tab n 112 [i64 a] []=some (.bool (decide (0<=a/\a<=1099511627776)),[],[]):=by
 obtain⟨d,rfl⟩:=wA h
 rw[zad (fd:=zx1) rfl]
 by_cases h1:0<=a
 . by_cases h2:a<=1099511627776
   . rw[decide_eq_true ⟨h1,h2⟩];simp(disch:=apply zq;omega) only[go_sem,simprocAttr,↓Nat.reduceEqDiff,xx,zx1,m112]
   . rw[decide_eq_false (fun h=>h2 h.2)];simp(disch:=apply zq;omega) only[go_sem,simprocAttr,↓Nat.reduceEqDiff,xx,zx1,m112]
 . rw[decide_eq_false (fun h=>h1 h.1)];simp(disch:=apply zq;omega) only[go_sem,simprocAttr,↓Nat.reduceEqDiff,xx,zx1,m112]
theorem zjd (h:2<=n)(lo hi:Int):call gl tab n 64 [.agg [i64 lo,i64 hi]] []=some (.bool (decide (CV lo hi)),[],[]):=by
 obtain⟨d,rfl⟩:=wA h
 have c1:=@z06 gl (d+1) (by omega) lo
 have c2:=@z06 gl (d+1) (by omega) hi
 rw[zad (fd:=fd64) rfl]
 by_cases h1:0<=lo/\lo<=1099511627776
 . rw[decide_eq_true h1]at c1
   by_cases h2:0<=hi/\hi<=1099511627776
   . rw[decide_eq_true h2]at c2
     by_cases h3:lo<=hi
     . rw[decide_eq_true (show CV lo hi from⟨h1.1,h3,h2.2⟩)];simp(disch:=apply zq;omega) only[go_sem,simprocAttr,↓Nat.reduceEqDiff,xx,fd64,m64,c1,c2]
     . rw[decide_eq_false (fun h:CV lo hi=>h3 h.2.1)];simp(disch:=apply zq;omega) only[go_sem,simprocAttr,↓Nat.reduceEqDiff,xx,fd64,m64,c1,c2]
   . rw[decide_eq_false h2]at c2
     rw[decide_eq_false (fun h:CV lo hi=>h2 ⟨by have:=h.1;have:=h.2.1;omega,h.2.2⟩)];simp(disch:=apply zq;omega) only[go_sem,simprocAttr,↓Nat.reduceEqDiff,xx,fd64,m64,c1,c2]
 . rw[decide_eq_false h1]at c1
   rw[decide_eq_false (fun h:CV lo hi=>h1 ⟨h.1,by have:=h.2.1;have:=h.2.2;omega⟩)];simp(disch:=apply zq;omega) only[go_sem,simprocAttr,↓Nat.reduceEqDiff,xx,fd64,m64,c1,c2]
section
variable {s :Int} {f f2 f3:Bool} {sh sh2 sh3:Sh} {l:List Rv} {t:List Dg} {U:List AV}
theorem z4m (h:1<=n){z:Int}{x:Rv}(hx:za2 rSh x.r=true)(hl:l.length<=60000)(hb:¬(x.site=s/\x.seq=l.length)) :
  call gl tab n 17 [ldAV s f sh l z f2 sh2 t f3 sh3 U,rvAV x] []=some (.agg [ldAV s f sh l z f2 sh2 t f3 sh3 U,hdL0,i64 1],[],[]):=by
 obtain⟨d,rfl⟩:=wA h
 have hL:=zaz l
 rw[zad (fd:=fd17) rfl]
 by_cases e1:x.site=s
 . have e2:(x.seq != (l.length:Int))=true:=by rw[bne_iff_ne];exact fun e=>hb ⟨e1,e⟩
   have e1:(x.site != s)=false:=by rw[e1];exact bne_self_eq_false _
   simp(disch:=apply zq;omega) only[go_sem,simprocAttr,↓Nat.reduceEqDiff,xx,fd17,m17,↓out16_eq,hx,hL,e1,e2,H.oo]
 . have e1:(x.site != s)=true:=by rw[bne_iff_ne];exact e1
   simp(disch:=apply zq;omega) only[go_sem,simprocAttr,↓Nat.reduceEqDiff,xx,fd17,m17,↓out16_eq,hx,hL,e1,H.oo]
theorem qaf [Nonempty (GlR gl)](h:15<=n){z:Nat}{x:Rv}(hx:za2 rSh x.r=true)(hf:x.f.length=16)(hr:RvR gl x)(hl:l.length<60000)(hs:Sr l sh)(e1:x.site=s)(e2:x.seq=l.length)
  (ht:t.length<=1000000) (ha:All16 t) (hs2:Sd t sh2 sB) (hz:z<1099511627776) (hF:M.Form z t) :
  call gl tab n 17 [ldAV s f sh l z f2 sh2 t f3 sh3 U,rvAV x] []=some (.agg [ldAV s false sRe (l++[x]) (z+1:Nat) false sB (grw z t x.f) f3 sh3 U,hdL0,i64 0],[],[]):=by
 obtain⟨d,rfl⟩:=wA h
 have h2:=hr (d+14) (by omega)
 have hL:=zaz l
 have c:=@M.rappend_ok gl (d+14) _ (by omega) z f2 sh2 t x.f hf ht ha hs2 hz hF
 have e1:(x.site != s)=false:=by rw[e1];exact bne_self_eq_false _
 have e2:(x.seq != (l.length:Int))=false:=by rw[e2];exact bne_self_eq_false _
 have hA:=zzm l x
 have q:=H.bytes_all x.f
 have q2:=b16 hf
 have hLim:l.length+1<=LIM:=by unfold LIM;omega
 have hLimb:0+l.length<=LIM:=by unfold LIM;omega
 have hLimc:l.length<=LIM:=by unfold LIM;omega
 rw[zad (fd:=fd17) rfl]
 show _=some (AV.agg [.agg [i64 s,.lst false sRe (rvs (l++[x])),.agg [i64 (z+1:Nat),.lst false sB (dgL (grw z t x.f))],.lst f3 sh3 U],hdL0,i64 0],[],[])
 rw[<-hA]
 have hLim0:0+1<=LIM:=by unfold LIM;omega
 have hLim1:0<=LIM:=by unfold LIM;omega
 rcases hs with rfl|rfl
 . have hI:rvs []=[]:=rfl
   simp(maxSteps:=1000000) (disch:=apply zq;omega) only[go_sem,simprocAttr,↓Nat.reduceEqDiff,xx,fd17,m17,↓out16_eq,hx,h2,hI,wG,e1,e2,c,q,q2,hLim0,hLim1,H.oo]
 . simp(maxSteps:=1000000) (disch:=apply zq;omega) only[go_sem,simprocAttr,↓Nat.reduceEqDiff,xx,fd17,m17,↓out16_eq,hx,h2,hL,e1,e2,c,q,q2,hLim,hLimb,hLimc,H.oo]
   first|done|rw[wD (by rw[wF,hL];exact wC _)]
end
end Go.Proofs.S44.L
namespace Go.Proofs.S44.L
open Go Go.Ev Go.Proofs Go.Proofs.S44
open Go.Proofs.S44.H (strsAV zaa zai Sml GlK GlR)
open Go.Proofs.S44.M (lf zcv Dg dgL dgL_length All16 Sd sB pkAV grw P8 R8 pv8)
variable {gl :Gl} {n:Nat}
section
variable {s z lo hi:Int} {f f2 f3:Bool} {sh sh2 sh3:Sh} {l:List Rv} {t:List Dg} {hs:List Hd} {k:Ky} {root:Dg}
theorem z3s {U:List AV}(h:2<=n)(hkl:k.k.length<=9223372036854775807)(hs0:0<=s/\s<64)(hb:¬(VK k/\k.p=1000+s/\CV lo hi)) :
  call gl tab n 18 [ldAV s f sh l z f2 sh2 t f3 sh3 U,ky k,.agg [i64 lo,i64 hi]] [] =
   some (.tup [ldAV s f sh l z f2 sh2 t f3 sh3 U,hdL0,i64 1],[],[]):=by
 obtain⟨d,rfl⟩:=wA h
 have c1:=@S44.valid_at gl (d+1) (by omega) k hkl
 have c2:=@zmq gl (d+1) (by omega) lo hi
 rw[zad (fd:=fd18) rfl]
 by_cases hk:VK k
 . rw[decide_eq_true hk]at c1
   by_cases hp:k.p=1000+s
   . rw[decide_eq_false (fun hc=>hb ⟨hk,hp,hc⟩)]at c2
     have hq:(k.p != 1000+s)=false:=by rw[hp];exact bne_self_eq_false _
     simp(disch:=apply zq;omega) only[go_sem,simprocAttr,↓Nat.reduceEqDiff,xx,fd18,m18,↓out16_eq,H.oo,c1,c2,hq]
   . have hq:(k.p != 1000+s)=true:=by rw[bne_iff_ne];exact hp
     simp(disch:=apply zq;omega) only[go_sem,simprocAttr,↓Nat.reduceEqDiff,xx,fd18,m18,↓out16_eq,H.oo,c1,c2,hq]
 . rw[decide_eq_false hk]at c1
   simp(disch:=apply zq;omega) only[go_sem,simprocAttr,↓Nat.reduceEqDiff,xx,fd18,m18,↓out16_eq,H.oo,c1,c2]
theorem zzo {U:List AV}(h:3<=n)(hkl:k.k.length<=9223372036854775807)(hs0:0<=s/\s<64)(hb:¬(VK k/\k.p=1000+s/\CV lo hi)) :
  call gl tab n 19 [ldAV s f sh l z f2 sh2 t f3 sh3 U,ky k,.agg [i64 lo,i64 hi]] [] =
   some (.agg [ldAV s f sh l z f2 sh2 t f3 sh3 U,hdL0,i64 1],[],[]):=by
 obtain⟨d,rfl⟩:=wA h
 have c1:=@S44.rvalid_at gl (d+2) (by omega) k hkl
 have c2:=@zjd gl (d+2) (by omega) lo hi
 rw[zad (fd:=fd19) rfl]
 by_cases hk:VK k
 . rw[decide_eq_true hk]at c1
   by_cases hp:k.p=1000+s
   . rw[decide_eq_false (fun hc=>hb ⟨hk,hp,hc⟩)]at c2
     have hq:(k.p != 1000+s)=false:=by rw[hp];exact bne_self_eq_false _
     simp(disch:=apply zq;omega) only[go_sem,simprocAttr,↓Nat.reduceEqDiff,xx,fd19,m19,↓out16_eq,H.oo,c1,c2,hq]
   . have hq:(k.p != 1000+s)=true:=by rw[bne_iff_ne];exact hp
     simp(disch:=apply zq;omega) only[go_sem,simprocAttr,↓Nat.reduceEqDiff,xx,fd19,m19,↓out16_eq,H.oo,c1,c2,hq]
 . rw[decide_eq_false hk]at c1
   simp(disch:=apply zq;omega) only[go_sem,simprocAttr,↓Nat.reduceEqDiff,xx,fd19,m19,↓out16_eq,H.oo,c1,c2]
theorem zze (h:2<=n)(hk:VK k)(hs0:0<=s/\s<64)(hp:k.p=1000+s)(hc:CV lo hi)
  (h3:hs=[]\/sh3=sHd) (hhl:hs.length<=60000) (hh:∀x∈hs,HdOk x) (hlo:¬(hs=[]\/(hdat hs (hs.length-1)).lo<=lo)) :
  call gl tab n 18 [ldAV s f sh l z f2 sh2 t f3 sh3 (hds hs),ky k,.agg [i64 lo,i64 hi]] [] =
   some (.tup [ldAV s f sh l z f2 sh2 t f3 sh3 (hds hs),hdL0,i64 9],[],[]):=by
 obtain⟨d,rfl⟩:=wA h
 have c1:=@S44.valid_at gl (d+1) (by omega) k (by have:=hk.k;omega)
 rw[decide_eq_true hk]at c1
 have c2:=@zmq gl (d+1) (by omega) lo hi
 rw[decide_eq_true hc]at c2
 have hb:(k.p != 1000+s)=false:=by rw[hp];exact bne_self_eq_false _
 have hLh:=zbf hs
 have hn:hs≠[]:=fun e=>hlo (.inl e)
 have hp0:hs.length≠0:=fun e=>hn (wE.1 e)
 have hlo:¬(hdat hs (hs.length-1)).lo<=lo:=fun e=>hlo (.inr e)
 have h3:=h3.resolve_left hn
 subst h3
 have hx:=zeu (l:=hs) (i:=hs.length-1) (by omega)
 have ok3:=hh _ (zco (show hs.length-1<hs.length by omega))
 have v3:=b16 ok3.r
 have v4:=b16 ok3.s
 have w3:=H.bytes_all (hdat hs (hs.length-1)).root
 have w4:=H.bytes_all (hdat hs (hs.length-1)).sgn
 generalize hdat hs (hs.length-1)=y at *
 clear ok3 hh
 obtain⟨m,hm⟩:∃m,hs.length=m+1:=⟨hs.length-1,by omega⟩
 rw[hm]at hx hLh
 rw[wB]at hx
 rw[zad (fd:=fd18) rfl]
 simp(maxSteps:=1000000) (disch:=apply zq;omega) only[go_sem,simprocAttr,↓Nat.reduceEqDiff,xx,fd18,m18,↓out16_eq,c1,c2,hb,hLh,hx,v3,v4,w3,w4,wB,H.oo]
theorem zwq (h:3<=n)(hk:VK k)(hs0:0<=s/\s<64)(hp:k.p=1000+s)(hc:CV lo hi)
  (h3:hs=[]\/sh3=sHd) (hhl:hs.length<=60000) (hh:∀x∈hs,HdOk x) (hlo:¬(hs=[]\/(hdat hs (hs.length-1)).lo<=lo)) :
  call gl tab n 19 [ldAV s f sh l z f2 sh2 t f3 sh3 (hds hs),ky k,.agg [i64 lo,i64 hi]] [] =
   some (.agg [ldAV s f sh l z f2 sh2 t f3 sh3 (hds hs),hdL0,i64 9],[],[]):=by
 obtain⟨d,rfl⟩:=wA h
 have c1:=@S44.rvalid_at gl (d+2) (by omega) k (by have:=hk.k;omega)
 rw[decide_eq_true hk]at c1
 have c2:=@zjd gl (d+2) (by omega) lo hi
 rw[decide_eq_true hc]at c2
 have hb:(k.p != 1000+s)=false:=by rw[hp];exact bne_self_eq_false _
 have hLh:=zbf hs
 have hn:hs≠[]:=fun e=>hlo (.inl e)
 have hp0:hs.length≠0:=fun e=>hn (wE.1 e)
 have hlo:¬(hdat hs (hs.length-1)).lo<=lo:=fun e=>hlo (.inr e)
 have h3:=h3.resolve_left hn
 subst h3
 have hx:=zeu (l:=hs) (i:=hs.length-1) (by omega)
 have ok3:=hh _ (zco (show hs.length-1<hs.length by omega))
 have v3:=b16 ok3.r
 have v4:=b16 ok3.s
 have w3:=H.bytes_all (hdat hs (hs.length-1)).root
 have w4:=H.bytes_all (hdat hs (hs.length-1)).sgn
 generalize hdat hs (hs.length-1)=y at *
 clear ok3 hh
 obtain⟨m,hm⟩:∃m,hs.length=m+1:=⟨hs.length-1,by omega⟩
 rw[hm]at hx hLh
 rw[wB]at hx
 rw[zad (fd:=fd19) rfl]
 simp(maxSteps:=1000000) (disch:=apply zq;omega) only[go_sem,simprocAttr,↓Nat.reduceEqDiff,xx,fd19,m19,↓out16_eq,c1,c2,hb,hLh,hx,v3,v4,w3,w4,wB,H.oo]
theorem z3y [Nonempty (GlR gl)](h:1001<=n)(hk:VK k)(hs0:0<=s/\s<64)(hp:k.p=1000+s)(hc:CV lo hi)(h2:Sr l sh)(hl:l.length<=800)(ok:∀x∈l,RvOk gl x)(ok':∀x∈l,RvR gl x)
  (h3:hs=[]\/sh3=sHd) (hhl:hs.length<=60000) (hh:∀x∈hs,HdOk x) (hlo:hs=[]\/(hdat hs (hs.length-1)).lo<=lo) :
  call gl tab n 19 [ldAV s f sh l z f2 sh2 t f3 sh3 (hds hs),ky k,.agg [i64 lo,i64 hi]] [] =
   some (.agg [ldAV s f sh l z f2 sh2 t false sHd (hds (hs++[hdS k (hd0 s l.length (R8 (fs l) l.length) lo hi)])),hdAV (hdS k (hd0 s l.length (R8 (fs l) l.length) lo hi)),i64 0],[],[]):=by
 obtain⟨d,rfl⟩:=wA h
 have c1:=@S44.rvalid_at gl (d+1000) (by omega) k (by have:=hk.k;omega)
 rw[decide_eq_true hk]at c1
 have c2:=@zjd gl (d+1000) (by omega) lo hi
 rw[decide_eq_true hc]at c2
 have al:=zcp ok
 have cl:=zng (gl:=gl) (n:=d+1000) (s:=s) (z:=z) (f:=f) (f2:=f2) (f3:=f3) (sh2:=sh2) (sh3:=sh3) (t:=t) (U:=hds hs) (by omega) h2 (by omega) ok ok' (k:=l.length) (wC _)
 rw[wD (by rw[zan];exact wC _)]at cl
 have cr:=M.rroot_at (gl:=gl) 800 (n:=d+1000) (fs l) false sB (by rw[zan];omega) (by omega) al (by rw[zan];omega) (.inr rfl)
 have eR:R8 (fs l) l.length=Mk.rt M.nd M.em (fs l):=by rw[R8,wD (by rw[zan];exact wC _)]
 rw[<-eR]at cr
 have hr:(R8 (fs l) l.length).length=16:=M.R8_len al _
 generalize R8 (fs l) l.length=root at *
 unfold CV at hc
 have hok:HdOk (hd0 s l.length root lo hi):=⟨za3 (show R64 s by unfold R64;omega) (za3 (show R64 (l.length:Int) by unfold R64;omega) (za3 (show R64 lo by unfold R64;omega) (za3 (show R64 hi by unfold R64;omega) (za3 (show R64 0 by unfold R64;omega) zev (by simp)) (by simp)) (by simp)) (by simp)) (by simp),hr,by simp⟩
 have c4:=@qbn gl (d+1000) _ (by omega) k hk.ok _ hok
 have hb:(k.p != 1000+s)=false:=by rw[hp];exact bne_self_eq_false _
 have hL:=zaz l
 have hLh:=zbf hs
 have ok2:=zvd hk.ok hok
 have v1:=b16 hr
 have v1t:=b16t hr
 have w1:=H.bytes_all root
 have v2:(zac (hdS k (hd0 s l.length root lo hi)).sgn).length=16:=b16 ok2.s
 have w2:=H.bytes_all (hdS k (hd0 s l.length root lo hi)).sgn
 have hA:=z08 hs (hdS k (hd0 s l.length root lo hi))
 rw[<-hA]
 have e0:hdAV (hd0 s l.length root lo hi)= .agg [i64 s,i64 l.length,bAV root,.agg [i64 lo,i64 hi],i64 0,.agg H.out16l]:=rfl
 have e1:hdAV (hdS k (hd0 s l.length root lo hi))= .agg [i64 s,i64 l.length,bAV root,.agg [i64 lo,i64 hi],i64 k.s,.agg (zac (hdS k (hd0 s l.length root lo hi)).sgn)]:=rfl
 rw[e1]at c4 ⊢
 rw[e0]at c4
 generalize (hdS k (hd0 s l.length root lo hi)).sgn=sg at *
 clear ok2 hok hA e1 e0 eR al
 generalize fs l=fl at *
 have hLim:hs.length+1<=LIM:=by unfold LIM;omega
 have hLimb:0+hs.length<=LIM:=by unfold LIM;omega
 have hLimc:hs.length<=LIM:=by unfold LIM;omega
 have hLim0:0+1<=LIM:=by unfold LIM;omega
 have hLim1:0<=LIM:=by unfold LIM;omega
 rw[zad (fd:=fd19) rfl]
 by_cases hn:hs=[]
 . subst hn
   have hI:hds []=[]:=rfl
   rw[hI]at cl
   simp(maxSteps:=1000000) (disch:=apply zq;omega) only[go_sem,simprocAttr,↓Nat.reduceEqDiff,xx,fd19,m19,↓out16_eq,c1,c2,cl,cr,c4,hb,hL,hI,wG,v1,v1t,w1,v2,w2,hLim0,hLim1,H.oo]
 . have hp0:hs.length≠0:=fun e=>hn (wE.1 e)
   have hlo:=hlo.resolve_left hn
   have h3:=h3.resolve_left hn
   subst h3
   have hx:=zeu (l:=hs) (i:=hs.length-1) (by omega)
   have ok3:=hh _ (zco (show hs.length-1<hs.length by omega))
   have v3:=b16 ok3.r
   have v4:=b16 ok3.s
   have w3:=H.bytes_all (hdat hs (hs.length-1)).root
   have w4:=H.bytes_all (hdat hs (hs.length-1)).sgn
   generalize hdat hs (hs.length-1)=y at *
   clear ok3 hh
   obtain⟨m,hm⟩:∃m,hs.length=m+1:=⟨hs.length-1,by omega⟩
   rw[hm]at hx hLh hLim hLimb hLimc
   rw[wB]at hx
   simp(maxSteps:=1000000) (disch:=apply zq;omega) only[go_sem,simprocAttr,↓Nat.reduceEqDiff,xx,fd19,m19,↓out16_eq,c1,c2,cl,cr,c4,hb,hL,hLh,hx,v1,v1t,w1,v2,w2,v3,v4,w3,w4,hLim,hLimb,hLimc,wB,H.oo]
   first|done|rw[wD (by rw[wF,hLh];exact wC _)]
end
end Go.Proofs.S44.L
