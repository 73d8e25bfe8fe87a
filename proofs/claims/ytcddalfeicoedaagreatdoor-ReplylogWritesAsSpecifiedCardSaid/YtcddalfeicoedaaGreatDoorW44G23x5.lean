/-
  Chapter 44: the examples. No condition.
-/
import Derived.Test.YtcddalfeicoedaaGreatDoorW44G22x5
set_option linter.unusedVariables false
set_option linter.unusedSimpArgs false
set_option linter.unusedSectionVars false
namespace Go.Proofs.S44.L
open Go Go.Ev Go.Proofs Go.Proofs.S44
open Go.Proofs.S44.H (strsAV strsAV_length strsAV_get Sml GlK GlR zints Few64 nsI nsI_length nsI_get zint zint_len encB encB_len bytesAV_append dig inp)
open Go.Proofs.S44.M (lf lf_len Dg dgL dgL_length All16 Sd sB pkAV grw)
variable {gl :Gl} {n:Nat}
abbrev lz :AV:=.agg [i64 0,.lst true .sc [],.agg [i64 0,.lst true .sc []],.lst true .sc []]
theorem new_at (h:2<=n)(a:Int):call gl tab n 11 [i64 a] []=some (.tup [if 0<=a/\a<64 then .agg [i64 a,.lst true .sc [],.agg [i64 0,.lst true .sc []],.lst true .sc []]else lz,i64 (if 0<=a/\a<64 then 0 else 1)],[],[]):=by
 obtain⟨d,rfl⟩:=Nat.exists_eq_add_of_le' h
 have c:=@site_at gl (d+1) (by omega) a
 rw[call_go (fd:=fd11) rfl]
 by_cases hs:0<=a/\a<64
 . rw[decide_eq_true hs]at c
   rw[if_pos hs,if_pos hs]
   simp(disch:=((fail_if_success (intro _));omega)) only[go_sem,simprocAttr,↓reduceIte,↓Nat.reduceEqDiff,xx,fd11,m11,c]
 . rw[decide_eq_false hs]at c
   rw[if_neg hs,if_neg hs]
   simp(disch:=((fail_if_success (intro _));omega)) only[go_sem,simprocAttr,↓reduceIte,↓Nat.reduceEqDiff,xx,fd11,m11,c]
def k3 :Ky:=⟨1003,1,[115],0,1099511627776⟩
theorem k3_v :VK k3:=⟨by decide,by decide,by decide,by decide,by decide⟩
theorem k3_r :VR [k3]:=⟨by decide,fun i hi=>by
 match i,hi with
 | 0,_=>exact⟨k3_v,fun h=>absurd h (by decide)⟩⟩
theorem key3_at (h:1<=n):call gl tab n 20 [i64 3] []=some (.agg [i64 1003,i64 1,.str [115],i64 0,i64 1099511627776],[],[]):=by
 obtain⟨d,rfl⟩:=Nat.exists_eq_add_of_le' h
 rw[call_go (fd:=fd20) rfl]
 simp(disch:=((fail_if_success (intro _));omega)) only[go_sem,simprocAttr,↓reduceIte,↓Nat.reduceEqDiff,xx,fd20,m20]
theorem hdC_own (g:Dg):hdC [k3] (hdS k3 (hd0 3 1 g 10 20))=0:=by
 have e:hdP (hdS k3 (hd0 3 1 g 10 20))=hdP (hdK k3 (hd0 3 1 g 10 20)):=rfl
 have fn1:fnK [k3] 1003 1=some k3:=rfl
 rw[hdC,if_pos (show isSite (hdS k3 (hd0 3 1 g 10 20)).site=true from(by decide:isSite (3:Int)=true))]
 show ckE [k3] (1000+3) 1 44 (hdP (hdS k3 (hd0 3 1 g 10 20))) (sea k3.k 44 (hdP (hdK k3 (hd0 3 1 g 10 20)))) 10 20=0
 unfold ckE
 rw[show(1000+3:Int)=1003 from rfl,fn1,e]
 simp only
 rw[if_pos (by decide),if_pos trivial]
theorem ckI_1 (g' g:Dg):ckI g' 0 1 [] g=decide (g'=g):=by
 unfold ckI
 rw[Bool.eq_iff_iff,decide_eq_true_eq,decide_eq_true_eq]
 have e1:Mk.dep (Int.toNat 0) (Int.toNat 1)=0:=Mk.dep_one (by decide)
 have e2:Mk.cl M.nd M.z16 g' (Int.toNat 0) (Int.toNat 1) []=g':=by rw[Mk.cl,dif_neg (by decide)]
 rw[e1,e2]
 exact⟨fun h=>h.2.2,fun h=>⟨by omega,rfl,h⟩⟩
abbrev lA1 (g:Dg):AV:=.agg [i64 3,.lst false sRe [zA 0],.agg [i64 1,.lst false sB [.agg (bytesAV g)]],.lst true .sc []]
abbrev hA1 (g sg:Dg):AV:=.agg [i64 3,i64 1,.agg (bytesAV g),.agg [i64 10,i64 20],i64 1,.agg (bytesAV sg)]
set_option maxHeartbeats 2000000 in
theorem sanity_at [Nonempty (GlK gl)][Nonempty (M.GlB gl)](h:1010<=n):call gl tab n 10 [] []=some (.bool true,[],[]):=by
 obtain⟨d,rfl⟩:=Nat.exists_eq_add_of_le' h
 have b1:=@new_at gl (d+1009) (by omega) 3
 rw[if_pos (by decide),if_pos (by decide)]at b1
 have b2:=@new_at gl (d+1009) (by omega) 64
 rw[if_neg (by decide),if_neg (by decide)]at b2
 have v0:=zV_ok (gl:=gl) r0
 have v1:=zV_ok (gl:=gl) (m:=1) (by unfold R64;omega)
 have a1:=app_ok (gl:=gl) (n:=d+1009) (s:=3) (f:=true) (f2:=true) (f3:=true) (sh:=.sc) (sh2:=.sc) (sh3:=.sc) (l:=[]) (t:=[]) (U:=[]) (by omega) (z:=0) v0 (by simp) (.inl rfl) rfl rfl (by simp) (by intro y hy;simp at hy) (.inl rfl) (by omega) ⟨by omega,by omega,Mk.pcn_0.symm⟩
 rw[grw1]at a1
 have a2:=app_arg (gl:=gl) (n:=d+1009) (s:=3) (f:=false) (f2:=false) (f3:=true) (sh:=sRe) (sh2:=sB) (sh3:=.sc) (l:=[zV 0]) (t:=[(zV 0).f]) (U:=[]) (z:=1) (by omega) v0 (by simp) (fun h=>absurd h.2 (by decide))
 have g16:=v0.f
 have se:=seal_ok (gl:=gl) (n:=d+1009) (s:=3) (z:=1) (lo:=10) (hi:=20) (f:=false) (f2:=false) (f3:=true) (sh:=sRe) (sh2:=sB) (sh3:=.sc) (l:=[zV 0]) (t:=[(zV 0).f]) (hs:=[]) (k:=k3) (root:=(zV 0).f) (by omega) k3_v (by omega) (by decide) (by unfold CV;omega) g16 (fun n hn=>top1 hn g16) (by simp) (.inl rfl) (by simp) (by simp) (.inl rfl)
 have hok:HdOk (hdS k3 (hd0 3 1 (zV 0).f 10 20)):=hdS_ok k3_v.ok ⟨few_mk r3 (few4 (show R64 1 by unfold R64;omega) (show R64 10 by unfold R64;omega) (show R64 20 by unfold R64;omega) r0) (by simp),g16,by simp⟩
 have pr:=proof_ok (gl:=gl) (n:=d+1009) (s:=3) (z:=1) (f:=false) (f2:=false) (f3:=false) (sh:=sRe) (sh2:=sB) (sh3:=sHd) (l:=[zV 0]) (t:=[(zV 0).f]) (hs:=[hdS k3 (hd0 3 1 (zV 0).f 10 20)]) (by omega) (.inr rfl) (by simp) (fun x hx=>by simp at hx;subst hx;exact v0) (.inr rfl) (by simp) (fun x hx=>by simp at hx;subst hx;exact hok) (h:=hdS k3 (hd0 3 1 (zV 0).f 10 20)) (by simp) (k:=1) (i:=0) rfl (by simp) (by omega)
 rw[show fs ([zV 0].take 1)=[(zV 0).f]from rfl,incl1]at pr
 have c0:=shown_at (gl:=gl) (n:=d+1009) (fr:=false) (m:=sY) (ring:=[k3]) (by omega) (.inr rfl) k3_r v0 hok (f:=false) (sh:=sB) (p:=[]) (by intro y hy;simp at hy) (by simp) (.inr rfl)
 have c1:=shown_at (gl:=gl) (n:=d+1009) (fr:=false) (m:=sY) (ring:=[k3]) (by omega) (.inr rfl) k3_r v1 hok (f:=false) (sh:=sB) (p:=[]) (by intro y hy;simp at hy) (by simp) (.inr rfl)
 have va:=valid_one (gl:=gl) (n:=d+1009) (by omega) (s:=3) (by omega) (f:=false) (f2:=false) (f3:=false) v0 rfl rfl (y:=hdS k3 (hd0 3 1 (zV 0).f 10 20)) hok rfl rfl rfl
 have lf0:=v0.l (d+1009) (by omega)
 have q0:ckS [k3] (zV 0) (hdS k3 (hd0 3 1 (zV 0).f 10 20)) []=0:=by
  unfold ckS
  rw[hdC_own]
  show fE [mE (3==3) 1,0,mE (ckI (zV 0).f 0 1 [] (zV 0).f) 3]=0
  rw[ckI_1,decide_eq_true rfl];rfl
 have q1:ckS [k3] (zV 1) (hdS k3 (hd0 3 1 (zV 0).f 10 20)) []=3:=by
  unfold ckS
  rw[hdC_own]
  show fE [mE (3==3) 1,0,mE (ckI (zV 1).f 0 1 [] (zV 0).f) 3]=3
  rw[ckI_1,decide_eq_false (show ¬(zV 1).f=(zV 0).f from zne)];rfl
 rw[q0]at c0
 rw[q1]at c1
 clear q0 q1 v0 v1 hok
 have ky:=@key3_at gl (d+1009) (by omega)
 have key:∀g sg:List UInt8,g=(zV 0).f->sg=(hdS k3 (hd0 3 1 (zV 0).f 10 20)).sgn->call gl tab (d+1010) 10 [] []=some (.bool true,[],[]):=fun g sg hg hsg=>by
  rw[<-hg]at hsg g16
  rw[<-hg]at a1 a2 se pr c0 c1 va lf0
  replace a1:call gl tab (d+1009) 16 [.agg [i64 3,.lst true .sc [],.agg [i64 0,.lst true .sc []],.lst true .sc []],zA 0] []=some (.tup [lA1 g,i64 0],[],[]):=a1
  replace a2:call gl tab (d+1009) 16 [lA1 g,zA 0] []=some (.tup [lA1 g,i64 1],[],[]):=a2
  have eh:hdAV (hdS k3 (hd0 3 1 g 10 20))=hA1 g sg:=by rw[hsg];rfl
  replace se:call gl tab (d+1009) 18 [lA1 g,.agg [i64 1003,i64 1,.str [115],i64 0,i64 1099511627776],.agg [i64 10,i64 20]] []=some (.tup [.agg [i64 3,.lst false sRe [zA 0],.agg [i64 1,.lst false sB [.agg (bytesAV g)]],.lst false sHd [hdAV (hdS k3 (hd0 3 1 g 10 20))]],hdAV (hdS k3 (hd0 3 1 g 10 20)),i64 0],[],[]):=se
  replace pr:call gl tab (d+1009) 21 [.agg [i64 3,.lst false sRe [zA 0],.agg [i64 1,.lst false sB [.agg (bytesAV g)]],.lst false sHd [hdAV (hdS k3 (hd0 3 1 g 10 20))]],i64 0,hdAV (hdS k3 (hd0 3 1 g 10 20))] []=some (.tup [.agg [zA 0,hdAV (hdS k3 (hd0 3 1 g 10 20)),.lst false sB []],i64 0],[],[]):=pr
  replace c0:call gl tab (d+1009) 22 [.lst false sY [.agg [i64 1003,i64 1,.str [115],i64 0,i64 1099511627776]],.agg [zA 0,hdAV (hdS k3 (hd0 3 1 g 10 20)),.lst false sB []]] []=some (i64 0,[],[]):=c0
  replace c1:call gl tab (d+1009) 22 [.lst false sY [.agg [i64 1003,i64 1,.str [115],i64 0,i64 1099511627776]],.agg [zA 1,hdAV (hdS k3 (hd0 3 1 g 10 20)),.lst false sB []]] []=some (i64 3,[],[]):=c1
  replace va:call gl tab (d+1009) 15 [.agg [i64 3,.lst false sRe [zA 0],.agg [i64 1,.lst false sB [.agg (bytesAV g)]],.lst false sHd [hdAV (hdS k3 (hd0 3 1 g 10 20))]]] []=some (.bool true,[],[]):=va
  replace lf0:call gl tab (d+1009) 28 [zA 0] []=some (.agg (bytesAV g),[],[]):=lf0
  have sg16:sg.length=16:=by rw[hsg];exact sea_len _ _ _
  rw[eh]at se pr c0 c1 va
  clear eh hsg hg
  have u1:=b16 g16
  have u2:=b16 sg16
  have w1:=H.bytes_all g
  have w2:=H.bytes_all sg
  have q:=eqB g16 g16
  rw[decide_eq_true rfl]at q
  rw[call_go (fd:=fd10) rfl]
  simp(maxSteps:=1000000) (disch:=((fail_if_success (intro _));omega)) only[go_sem,simprocAttr,↓reduceIte,↓Nat.reduceEqDiff,xx,fd10,m10,↓out16_eq,b1,b2,a1,a2,ky,se,pr,c0,c1,va,lf0,u1,u2,w1,w2,q,g16,sg16,bytesAV_length,H.out16_len,H.out16_all,H.out16_pl]
 exact key _ _ rfl rfl
end Go.Proofs.S44.L
namespace Go.Proofs.S44.L
open Go Go.Ev Go.Proofs Go.Proofs.S44
open Go.Proofs.S44.H (strsAV strsAV_length strsAV_get Sml GlK GlR zints Few64 nsI nsI_length nsI_get zint zint_len encB encB_len bytesAV_append dig inp ub vintF vint vb ve zzN encL zzN_lt)
theorem ub_inj {a b:BitVec 8}(h:ub a=ub b):a=b:=by
 have:=congrArg UInt8.toBitVec h
 simpa[ub]using this
theorem vint_pre :∀(f z y:Nat) (r s:List UInt8),z<128^(f+1)->y<128^(f+1)->vintF f z++r=vintF f y++s->z=y/\r=s
 | 0,z,y,r,s,hz,hy,h=>by
   simp only[vintF,List.cons_append,List.nil_append,List.cons.injEq]at h
   have:=congrArg BitVec.toNat (ub_inj h.1)
   simp only[BitVec.toNat_ofNat]at this
   exact⟨by omega,h.2⟩
 | f+1,z,y,r,s,hz,hy,h=>by
   have key:∀a b:Nat,a<128->ve a≠vb b:=by
    intro a b ha he
    have:=congrArg BitVec.toNat (ub_inj he)
    simp only[BitVec.toNat_ofNat]at this
    omega
   rw[vintF,vintF]at h
   by_cases h1:z<128
   . by_cases h2:y<128
     . rw[if_pos h1,if_pos h2]at h
       simp only[List.cons_append,List.nil_append,List.cons.injEq]at h
       have:=congrArg BitVec.toNat (ub_inj h.1)
       simp only[BitVec.toNat_ofNat]at this
       exact⟨by omega,h.2⟩
     . rw[if_pos h1,if_neg h2]at h
       simp only[List.cons_append,List.nil_append,List.cons.injEq]at h
       exact absurd h.1 (key z y h1)
   . by_cases h2:y<128
     . rw[if_neg h1,if_pos h2]at h
       simp only[List.cons_append,List.nil_append,List.cons.injEq]at h
       exact absurd h.1.symm (key y z h2)
     . rw[if_neg h1,if_neg h2]at h
       simp only[List.cons_append,List.cons.injEq]at h
       have h3:=congrArg BitVec.toNat (ub_inj h.1)
       simp only[BitVec.toNat_ofNat]at h3
       have hp:∀x,x<128^(f+1+1)->x/128<128^(f+1):=fun x hx=>by
        rw[Nat.div_lt_iff_lt_mul (by omega),<-Nat.pow_succ];exact hx
       have ⟨h4,h5⟩:=vint_pre f (z/128) (y/128) r s (hp z hz) (hp y hy) h.2
       exact⟨by omega,h5⟩
theorem zint_pre {a b:Nat}(ha:a<2^62)(hb:b<2^62){r s:List UInt8}(h:zint a++r=zint b++s):a=b/\r=s:=by
 have e:∀n:Nat,zzN (n:Int)=2*n:=fun n=>by unfold zzN;rw[if_neg (by omega)];omega
 have hp:(128:Nat)^(9+1)=1180591620717411303424:=by decide
 unfold zint vint at h
 rw[e,e]at h
 have ⟨h1,h2⟩:=vint_pre 9 (2*a) (2*b) r s (by rw[hp];omega) (by rw[hp];omega) h
 exact⟨by omega,h2⟩
theorem encB_pre {a b:List UInt8}(ha:a.length<2^62)(hb:b.length<2^62){r s:List UInt8}(h:encB a++r=encB b++s):a=b/\r=s:=by
 unfold encB at h
 rw[List.append_assoc,List.append_assoc]at h
 have ⟨h1,h2⟩:=zint_pre ha hb h
 exact List.append_inj h2 h1
theorem encB_ne (a:List UInt8):encB a≠[]:=by
 have:=zint_len a.length
 intro h
 have:=congrArg List.length h
 rw[encB,List.length_append]at this
 simp only[List.length_nil]at this
 omega
theorem encL_inj :∀{a b:List (List UInt8)},(∀x∈a,x.length<2^62)->(∀x∈b,x.length<2^62)->encL a=encL b->a=b
 | [],[],_,_,_=>rfl
 | [],y::b,_,_,h=>by
   simp only[encL,List.map_cons,List.flatten_cons,List.map_nil,List.flatten_nil]at h
   exact absurd (List.append_eq_nil_iff.1 h.symm).1 (encB_ne y)
 | x::a,[],_,_,h=>by
   simp only[encL,List.map_cons,List.flatten_cons,List.map_nil,List.flatten_nil]at h
   exact absurd (List.append_eq_nil_iff.1 h).1 (encB_ne x)
 | x::a,y::b,ha,hb,h=>by
   simp only[encL,List.map_cons,List.flatten_cons]at h
   have ⟨h1,h2⟩:=encB_pre (ha x (by simp)) (hb y (by simp)) h
   rw[h1,encL_inj (fun z hz=>ha z (by simp[hz])) (fun z hz=>hb z (by simp[hz])) h2]
theorem zint_preI {a b:Int}(ha:R64 a)(hb:R64 b){r s:List UInt8}(h:zint a++r=zint b++s):a=b/\r=s:=by
 have hp:(128:Nat)^(9+1)=1180591620717411303424:=by decide
 have h1:=zzN_lt ha
 have h2:=zzN_lt hb
 unfold zint vint at h
 have ⟨h3,h4⟩:=vint_pre 9 (zzN a) (zzN b) r s (by rw[hp];omega) (by rw[hp];omega) h
 refine⟨?_,h4⟩
 unfold zzN at h3
 split at h3<;>split at h3<;>omega
theorem zl_inj :∀{a b:List Int},(∀x∈a,R64 x)->(∀x∈b,R64 x)->(a.map zint).flatten=(b.map zint).flatten->a=b
 | [],[],_,_,_=>rfl
 | [],y::b,_,_,h=>by
   simp only[List.map_cons,List.flatten_cons,List.map_nil,List.flatten_nil]at h
   have:=(List.append_eq_nil_iff.1 h.symm).1
   have l:=zint_len y
   rw[this]at l;simp at l
 | x::a,[],_,_,h=>by
   simp only[List.map_cons,List.flatten_cons,List.map_nil,List.flatten_nil]at h
   have:=(List.append_eq_nil_iff.1 h).1
   have l:=zint_len x
   rw[this]at l;simp at l
 | x::a,y::b,ha,hb,h=>by
   simp only[List.map_cons,List.flatten_cons]at h
   have ⟨h1,h2⟩:=zint_preI (ha x (by simp)) (hb y (by simp)) h
   rw[h1,zl_inj (fun z hz=>ha z (by simp[hz])) (fun z hz=>hb z (by simp[hz])) h2]
theorem zints_inj {a b:List Int}(ha:Few64 a)(hb:Few64 b)(h:zints a=zints b):a=b:=by
 unfold zints at h
 have h1:=ha.1
 have h2:=hb.1
 have ⟨_,h3⟩:=zint_pre (by omega) (by omega) h
 exact zl_inj ha.2 hb.2 h3
theorem zstrs_inj {a b:List (List UInt8)}(ha:Sml a)(hb:Sml b)(h:zstrs a=zstrs b):a=b:=by
 unfold zstrs at h
 have h1:=ha.1
 have h2:=hb.1
 have ⟨_,h3⟩:=zint_pre (by omega) (by omega) h
 exact encL_inj (fun x hx=>by have:=ha.2 x hx;omega) (fun x hx=>by have:=hb.2 x hx;omega) h3
theorem cdP_inj {x y:Cd}(hx:CdOk x)(hy:CdOk y)(h:cdP x=cdP y):x=y:=by
 obtain⟨a1,a2,a3,a4,a5,a6,a7⟩:=x
 obtain⟨b1,b2,b3,b4,b5,b6,b7⟩:=y
 simp only[cdP,List.cons.injEq,and_true]at h
 obtain⟨h1,h2,h3,h4,h5⟩:=h
 have k1:=zints_inj hx.i hy.i h1
 have k3:=zstrs_inj hx.cl hy.cl h3
 have k4:=zstrs_inj hx.co hy.co h4
 have k5:=zints_inj hx.si hy.si h5
 simp only[List.cons.injEq,and_true]at k1
 simp only[Cd.mk.injEq]
 exact⟨k1.1,k1.2.1,h2,k3,k4,k5,k1.2.2⟩
theorem cat_inj {α:Type}{p:α->List (List UInt8)}{k:Nat}(hk:∀x,(p x).length=k){ok:α->Prop}(hp:∀x y,ok x->ok y->p x=p y->x=y):∀{a b:List α},a.length=b.length->(∀x∈a,ok x)->(∀x∈b,ok x)->∀{r s:List (List UInt8)},(a.map p).flatten++r=(b.map p).flatten++s->a=b/\r=s
 | [],[],_,_,_,r,s,h=>⟨rfl,by simpa using h⟩
 | x::a,y::b,hl,ha,hb,r,s,h=>by
   simp only[List.map_cons,List.flatten_cons,List.append_assoc]at h
   have ⟨h1,h2⟩:=List.append_inj h (by rw[hk,hk])
   have e:=hp x y (ha x (by simp)) (hb y (by simp)) h1
   have ⟨h3,h4⟩:=cat_inj hk hp (by simpa using hl) (fun z hz=>ha z (by simp[hz])) (fun z hz=>hb z (by simp[hz])) h2
   exact⟨by rw[e,h3],h4⟩
theorem csP_all (l:List Cd):csP l l.length=(l.map cdP).flatten:=by simp[csP]
theorem vsP_all (l:List Vy):vsP l l.length=(l.map vyP).flatten:=by simp[vsP]
theorem hsP_all (l:List Hr):hsP l l.length=(l.map hrP).flatten:=by simp[hsP]
theorem fl_inj {a b:Bool}(h:fl a=fl b):a=b:=by
 cases a<;>cases b<;>first|rfl|(exact absurd h (by decide))
theorem tkP_inj {x y:Tk}(hx:TkOk x)(hy:TkOk y)(hl:x.cs.length=y.cs.length){r s:List (List UInt8)}(h:tkP x++r=tkP y++s):x=y/\r=s:=by
 unfold tkP at h
 rw[csP_all,csP_all]at h
 simp only[List.cons_append,List.nil_append,List.cons.injEq]at h
 obtain⟨h1,h2,h3,h4⟩:=h
 have ⟨h5,h6⟩:=cat_inj (p:=cdP) (k:=5) (fun _=>rfl) (ok:=CdOk) (fun x y hx hy=>cdP_inj hx hy) hl hx.c hy.c h4
 have k1:=zints_inj hx.i hy.i h1
 simp only[List.cons.injEq,and_true]at k1
 obtain⟨a1,a2,a3,a4,a5⟩:=x
 obtain⟨b1,b2,b3,b4,b5⟩:=y
 simp only[Tk.mk.injEq]
 exact⟨⟨k1.1,k1.2,h2,h5,h3⟩,h6⟩
theorem rlP_inj {x y:Rl}(hx:RlOk x)(hy:RlOk y)(hl:x.tg.length=y.tg.length)(hv:x.vy.length=y.vy.length){r s:List (List UInt8)}(h:rlP x++r=rlP y++s):x=y/\r=s:=by
 unfold rlP at h
 rw[vsP_all,vsP_all]at h
 simp only[List.cons_append,List.nil_append,List.append_assoc,List.cons.injEq]at h
 obtain⟨h1,h2,h3,h4,h5⟩:=h
 have ⟨h6,h7⟩:=List.append_inj h5 hl
 have ⟨h8,h9⟩:=cat_inj (p:=vyP) (k:=3) (fun _=>rfl) (ok:=fun y=>Sml y.v) (fun x y hx hy h=>by
  obtain⟨a1,a2,a3⟩:=x
  obtain⟨b1,b2,b3⟩:=y
  simp only[vyP,List.cons.injEq,and_true]at h
  have:=zstrs_inj hx hy h.2.2
  simp only[Vy.mk.injEq]
  exact⟨h.1,this,h.2.1⟩) hv hx.vv hy.vv h7
 have ⟨h10,h11⟩:=List.append_inj h9 rfl
 have k0:=cdP_inj hx.a hy.a h10
 have k1:=zints_inj hx.i hy.i h4
 simp only[List.cons.injEq,and_true]at k1
 have k2:=fl_inj k1.2.2.2.2.1
 obtain⟨a1,a2,a3,a4,a5,a6,a7,a8,a9,aa,ab,ac⟩:=x
 obtain⟨b1,b2,b3,b4,b5,b6,b7,b8,b9,ba,bb,bc⟩:=y
 simp only[Rl.mk.injEq]
 exact⟨⟨h1,h2,h6,k1.1,k1.2.1,k1.2.2.1,k1.2.2.2.1,h8,k0,k2,k1.2.2.2.2.2,h3⟩,h11⟩
theorem reP_inj {x y:Re}(hx:ReOk x)(hy:ReOk y)(h:reP x=reP y):x=y:=by
 unfold reP p1 at h
 rw[hsP_all,hsP_all]at h
 simp only[List.cons_append,List.nil_append,List.append_assoc,List.cons.injEq]at h
 obtain⟨h1,h2,h3,h4,h5,h6,h7,h8⟩:=h
 have k1:=zints_inj hx.i hy.i h1
 simp only[nmS,List.cons.injEq,and_true]at k1
 obtain⟨m1,m2,m3,m4,m5,m6,m7,m8,m9,ma,mb,mc⟩:=k1
 have k2:=zints_inj hx.a hy.a h7
 simp only[List.cons.injEq,and_true]at k2
 have ⟨h9,h10⟩:=cat_inj (p:=hrP) (k:=2) (fun _=>rfl) (ok:=fun _=>True) (fun x y _ _ h=>by
  obtain⟨a1,a2⟩:=x
  obtain⟨b1,b2⟩:=y
  simp only[hrP,List.cons.injEq,and_true]at h
  simp only[Hr.mk.injEq]
  exact h) (show x.hs.length=y.hs.length by omega) (fun _ _=>trivial) (fun _ _=>trivial) h8
 have ⟨h11,h12⟩:=tkP_inj hx.t hy.t (by omega) h10
 have ⟨h13,h14⟩:=rlP_inj hx.r hy.r (by omega) (by omega) h12
 have ⟨h15,h16⟩:=List.append_inj h14 rfl
 simp only[spP,leP,List.cons_append,List.nil_append,List.cons.injEq,and_true]at h15 h16
 obtain⟨g1,g2,g3,g4,g5⟩:=h15
 obtain⟨g6,g7,g8⟩:=h16
 have k3:=zints_inj hx.s.i hy.s.i g3
 have k4:=zints_inj hx.l.i hy.l.i g7
 simp only[List.cons.injEq,and_true]at k3 k4
 have e1:x.sp=y.sp:=by
  generalize x.sp=u at *
  generalize y.sp=v at *
  obtain⟨a1,a2,a3,a4,a5,a6,a7,a8,a9,aa,ab⟩:=u
  obtain⟨b1,b2,b3,b4,b5,b6,b7,b8,b9,ba,bb⟩:=v
  simp only[Sp.mk.injEq]
  exact⟨g1,g2,k3.1,k3.2.1,g4,g5,k3.2.2.1,k3.2.2.2.1,k3.2.2.2.2.1,k3.2.2.2.2.2,g6⟩
 have e2:x.le=y.le:=by
  generalize x.le=u at *
  generalize y.le=v at *
  obtain⟨a1,a2,a3,a4,a5⟩:=u
  obtain⟨b1,b2,b3,b4,b5⟩:=v
  simp only[Le.mk.injEq]
  exact⟨k4.1,k4.2.1,k4.2.2.1,k4.2.2.2,g8⟩
 clear hx hy h1 h7 h8 h10 h12 h14 g1 g2 g3 g4 g5 g6 g7 g8 k3 k4 m9 ma mb mc
 obtain⟨a1,a2,a3,a4,a5,a6,a7,a8,a9,aa,ab,ac,ad,ae,af,ag,ah,ai,aj,ak,al⟩:=x
 obtain⟨b1,b2,b3,b4,b5,b6,b7,b8,b9,ba,bb,bc,bd,be,bf,bg,bh,bi,bj,bk,bl⟩:=y
 simp only at *
 subst m1 m2 m3 m4 m5 m6 m7 m8 h2 h3 h4 h5 h6 h9 h11 h13 e1 e2
 obtain⟨k21,k22,k23⟩:=k2
 subst k21 k22 k23
 rfl
end Go.Proofs.S44.L
