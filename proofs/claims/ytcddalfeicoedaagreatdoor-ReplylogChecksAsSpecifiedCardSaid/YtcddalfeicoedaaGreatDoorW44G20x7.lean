/-
  Chapter 44: the examples. No condition.
-/
import Derived.Test.YtcddalfeicoedaaGreatDoorW44G19x7
import Derived.Test.YtcddalfeicoedaaGreatDoorW44G16x7
set_option linter.unusedVariables false
set_option linter.unusedSimpArgs false
set_option linter.unusedSectionVars false
namespace Go.Proofs.S44.L
open Go Go.Ev Go.Proofs Go.Proofs.S44
open Go.Proofs.S44.H (GlK GlR)
open Go.Proofs.S44.M (Dg dgL All16 Sd sB)
variable {gl :Gl} {n:Nat}
abbrev lz :AV:=.agg [i64 0,.lst true .sc [],.agg [i64 0,.lst true .sc []],.lst true .sc []]
theorem new_at (h:2<=n)(a:Int):call gl tab n 11 [i64 a] []=some (.tup [if 0<=a/\a<64 then .agg [i64 a,.lst true .sc [],.agg [i64 0,.lst true .sc []],.lst true .sc []]else lz,i64 (if 0<=a/\a<64 then 0 else 1)],[],[]):=by
 obtain⟨d,rfl⟩:=Nat.exists_eq_add_of_le' h
 have c:=@site_at gl (d+1) (by omega) a
 rw[zad (fd:=fd11) rfl]
 by_cases hs:0<=a/\a<64
 . rw[decide_eq_true hs]at c
   rw[if_pos hs,if_pos hs]
   simp(disch:=(fail_if_success intro _);omega) only[go_sem,simprocAttr,↓Nat.reduceEqDiff,xx,fd11,m11,c]
 . rw[decide_eq_false hs]at c
   rw[if_neg hs,if_neg hs]
   simp(disch:=(fail_if_success intro _);omega) only[go_sem,simprocAttr,↓Nat.reduceEqDiff,xx,fd11,m11,c]
def k3 :Ky:=⟨1003,1,[115],0,1099511627776⟩
theorem k3_v :VK k3:=⟨by decide,by decide,by decide,by decide,by decide⟩
theorem k3_r :VR [k3]:=⟨by decide,fun i hi=>by
 match i,hi with
 | 0,_=>exact⟨k3_v,fun h=>absurd h (by decide)⟩⟩
theorem key3_at (h:1<=n):call gl tab n 20 [i64 3] []=some (.agg [i64 1003,i64 1,.str [115],i64 0,i64 1099511627776],[],[]):=by
 obtain⟨d,rfl⟩:=Nat.exists_eq_add_of_le' h
 rw[zad (fd:=fd20) rfl]
 simp(disch:=(fail_if_success intro _);omega) only[go_sem,simprocAttr,↓Nat.reduceEqDiff,xx,fd20,m20]
theorem hdC_own (g:Dg):hdC [k3] (hdS k3 (hd0 3 1 g 10 20))=0:=by
 have e:hdP (hdS k3 (hd0 3 1 g 10 20))=hdP (hdK k3 (hd0 3 1 g 10 20)):=rfl
 have fn1:fnK [k3] 1003 1=some k3:=rfl
 rw[hdC,if_pos (show zgt (hdS k3 (hd0 3 1 g 10 20)).site=true from(by decide:zgt (3:Int)=true))]
 show ckE [k3] (1000+3) 1 44 (hdP (hdS k3 (hd0 3 1 g 10 20))) (sea k3.k 44 (hdP (hdK k3 (hd0 3 1 g 10 20)))) 10 20=0
 unfold ckE
 rw[show(1000+3:Int)=1003 from rfl,fn1,e]
 simp only
 rw[if_pos (by decide),if_pos trivial]
theorem ckI_1 (g' g:Dg):ckI g' 0 1 [] g=decide (g'=g):=by
 unfold ckI
 rw[Bool.eq_iff_iff,decide_eq_true_eq,decide_eq_true_eq]
 have e1:Mk.dep (Int.toNat 0) (Int.toNat 1)=0:=Mk.dep_one (by decide)
 have e2:Mk.cl M.nd M.z16 g' (Int.toNat 0) (Int.toNat 1) []=g':=by rw[Mk.cl,dif_neg (by decide)]
 rw[e1,e2]
 exact⟨fun h=>h.2.2,fun h=>⟨by omega,rfl,h⟩⟩
abbrev lA1 (g:Dg):AV:=.agg [i64 3,.lst false sRe [zA 0],.agg [i64 1,.lst false sB [.agg (zac g)]],.lst true .sc []]
abbrev hA1 (g sg:Dg):AV:=.agg [i64 3,i64 1,.agg (zac g),.agg [i64 10,i64 20],i64 1,.agg (zac sg)]
set_option maxHeartbeats 2000000 in
theorem sanity_at [Nonempty (GlK gl)][Nonempty (M.GlB gl)](h:1010<=n):call gl tab n 10 [] []=some (.bool true,[],[]):=by
 obtain⟨d,rfl⟩:=Nat.exists_eq_add_of_le' h
 have b1:=@new_at gl (d+1009) (by omega) 3
 rw[if_pos (by decide),if_pos (by decide)]at b1
 have b2:=@new_at gl (d+1009) (by omega) 64
 rw[if_neg (by decide),if_neg (by decide)]at b2
 have v0:=zV_ok (gl:=gl) r0
 have v1:=zV_ok (gl:=gl) (m:=1) (by unfold R64;omega)
 have a1:=app_ok (gl:=gl) (n:=d+1009) (s:=3) (f:=true) (f2:=true) (f3:=true) (sh:=.sc) (sh2:=.sc) (sh3:=.sc) (l:=[]) (t:=[]) (U:=[]) (by omega) (z:=0) v0 (by simp) (.inl rfl) rfl rfl (by simp) (by intro y hy;simp at hy) (.inl rfl) (by omega) ⟨by omega,by omega,Mk.pcn_0.symm⟩
 rw[grw1]at a1
 have a2:=app_arg (gl:=gl) (n:=d+1009) (s:=3) (f:=false) (f2:=false) (f3:=true) (sh:=sRe) (sh2:=sB) (sh3:=.sc) (l:=[zV 0]) (t:=[(zV 0).f]) (U:=[]) (z:=1) (by omega) v0 (by simp) (fun h=>absurd h.2 (by decide))
 have g16:=v0.f
 have se:=seal_ok (gl:=gl) (n:=d+1009) (s:=3) (z:=1) (lo:=10) (hi:=20) (f:=false) (f2:=false) (f3:=true) (sh:=sRe) (sh2:=sB) (sh3:=.sc) (l:=[zV 0]) (t:=[(zV 0).f]) (hs:=[]) (k:=k3) (root:=(zV 0).f) (by omega) k3_v (by omega) (by decide) (by unfold CV;omega) g16 (fun n hn=>top1 hn g16) (by simp) (.inl rfl) (by simp) (by simp) (.inl rfl)
 have hok:HdOk (hdS k3 (hd0 3 1 (zV 0).f 10 20)):=hdS_ok k3_v.ok ⟨zbo r3 (few4 (show R64 1 by unfold R64;omega) (show R64 10 by unfold R64;omega) (show R64 20 by unfold R64;omega) r0) (by simp),g16,by simp⟩
 have pr:=proof_ok (gl:=gl) (n:=d+1009) (s:=3) (z:=1) (f:=false) (f2:=false) (f3:=false) (sh:=sRe) (sh2:=sB) (sh3:=sHd) (l:=[zV 0]) (t:=[(zV 0).f]) (hs:=[hdS k3 (hd0 3 1 (zV 0).f 10 20)]) (by omega) (.inr rfl) (by simp) (fun x hx=>by simp at hx;subst hx;exact v0) (.inr rfl) (by simp) (fun x hx=>by simp at hx;subst hx;exact hok) (h:=hdS k3 (hd0 3 1 (zV 0).f 10 20)) (by simp) (k:=1) (i:=0) rfl (by simp) (by omega)
 rw[show fs ([zV 0].take 1)=[(zV 0).f]from rfl,incl1]at pr
 have c0:=shown_at (gl:=gl) (n:=d+1009) (fr:=false) (m:=sY) (ring:=[k3]) (by omega) (.inr rfl) k3_r v0 hok (f:=false) (sh:=sB) (p:=[]) (by intro y hy;simp at hy) (by simp) (.inr rfl)
 have c1:=shown_at (gl:=gl) (n:=d+1009) (fr:=false) (m:=sY) (ring:=[k3]) (by omega) (.inr rfl) k3_r v1 hok (f:=false) (sh:=sB) (p:=[]) (by intro y hy;simp at hy) (by simp) (.inr rfl)
 have va:=valid_one (gl:=gl) (n:=d+1009) (by omega) (s:=3) (by omega) (f:=false) (f2:=false) (f3:=false) v0 rfl rfl (y:=hdS k3 (hd0 3 1 (zV 0).f 10 20)) hok rfl rfl rfl
 have lf0:=v0.l (d+1009) (by omega)
 have q0:ckS [k3] (zV 0) (hdS k3 (hd0 3 1 (zV 0).f 10 20)) []=0:=by
  unfold ckS
  rw[hdC_own]
  show fE [mE (3==3) 1,0,mE (ckI (zV 0).f 0 1 [] (zV 0).f) 3]=0
  rw[ckI_1,decide_eq_true rfl];rfl
 have q1:ckS [k3] (zV 1) (hdS k3 (hd0 3 1 (zV 0).f 10 20)) []=3:=by
  unfold ckS
  rw[hdC_own]
  show fE [mE (3==3) 1,0,mE (ckI (zV 1).f 0 1 [] (zV 0).f) 3]=3
  rw[ckI_1,decide_eq_false (show ¬(zV 1).f=(zV 0).f from zne)];rfl
 rw[q0]at c0
 rw[q1]at c1
 clear q0 q1 v0 v1 hok
 have ky:=@key3_at gl (d+1009) (by omega)
 have key:∀g sg:List UInt8,g=(zV 0).f->sg=(hdS k3 (hd0 3 1 (zV 0).f 10 20)).sgn->call gl tab (d+1010) 10 [] []=some (.bool true,[],[]):=fun g sg hg hsg=>by
  rw[<-hg]at hsg g16
  rw[<-hg]at a1 a2 se pr c0 c1 va lf0
  replace a1:call gl tab (d+1009) 16 [.agg [i64 3,.lst true .sc [],.agg [i64 0,.lst true .sc []],.lst true .sc []],zA 0] []=some (.tup [lA1 g,i64 0],[],[]):=a1
  replace a2:call gl tab (d+1009) 16 [lA1 g,zA 0] []=some (.tup [lA1 g,i64 1],[],[]):=a2
  have eh:hdAV (hdS k3 (hd0 3 1 g 10 20))=hA1 g sg:=by rw[hsg];rfl
  replace se:call gl tab (d+1009) 18 [lA1 g,.agg [i64 1003,i64 1,.str [115],i64 0,i64 1099511627776],.agg [i64 10,i64 20]] []=some (.tup [.agg [i64 3,.lst false sRe [zA 0],.agg [i64 1,.lst false sB [.agg (zac g)]],.lst false sHd [hdAV (hdS k3 (hd0 3 1 g 10 20))]],hdAV (hdS k3 (hd0 3 1 g 10 20)),i64 0],[],[]):=se
  replace pr:call gl tab (d+1009) 21 [.agg [i64 3,.lst false sRe [zA 0],.agg [i64 1,.lst false sB [.agg (zac g)]],.lst false sHd [hdAV (hdS k3 (hd0 3 1 g 10 20))]],i64 0,hdAV (hdS k3 (hd0 3 1 g 10 20))] []=some (.tup [.agg [zA 0,hdAV (hdS k3 (hd0 3 1 g 10 20)),.lst false sB []],i64 0],[],[]):=pr
  replace c0:call gl tab (d+1009) 22 [.lst false sY [.agg [i64 1003,i64 1,.str [115],i64 0,i64 1099511627776]],.agg [zA 0,hdAV (hdS k3 (hd0 3 1 g 10 20)),.lst false sB []]] []=some (i64 0,[],[]):=c0
  replace c1:call gl tab (d+1009) 22 [.lst false sY [.agg [i64 1003,i64 1,.str [115],i64 0,i64 1099511627776]],.agg [zA 1,hdAV (hdS k3 (hd0 3 1 g 10 20)),.lst false sB []]] []=some (i64 3,[],[]):=c1
  replace va:call gl tab (d+1009) 15 [.agg [i64 3,.lst false sRe [zA 0],.agg [i64 1,.lst false sB [.agg (zac g)]],.lst false sHd [hdAV (hdS k3 (hd0 3 1 g 10 20))]]] []=some (.bool true,[],[]):=va
  replace lf0:call gl tab (d+1009) 28 [zA 0] []=some (.agg (zac g),[],[]):=lf0
  have sg16:sg.length=16:=by rw[hsg];exact sea_len _ _ _
  rw[eh]at se pr c0 c1 va
  clear eh hsg hg
  have u1:=b16 g16
  have u2:=b16 sg16
  have w1:=H.bytes_all g
  have w2:=H.bytes_all sg
  have q:=eqB g16 g16
  rw[decide_eq_true rfl]at q
  rw[zad (fd:=fd10) rfl]
  simp(maxSteps:=1000000) (disch:=(fail_if_success intro _);omega) only[go_sem,simprocAttr,↓Nat.reduceEqDiff,xx,fd10,m10,↓out16_eq,b1,b2,a1,a2,ky,se,pr,c0,c1,va,lf0,u1,u2,w1,w2,q,g16,sg16,zaa,H.oo]
 exact key _ _ rfl rfl
end Go.Proofs.S44.L
namespace Go.Proofs.S44.M
open Go Go.Ev Go.Proofs Go.Mk
open Go.Proofs.S44.H (GlK GlR)
variable {gl :Gl} {n:Nat}
def clc (old:Dg)(m N:Nat)(mark:Bool)(p:List Dg):Dg×Dg:=clC nd z16 old m N mark p
theorem clc_all {old:Dg}{N:Nat}{mark:Bool}{p:List Dg}:clc old N N mark p=if mark then(old,old)else(p.getLastD z16,p.getLastD z16):=clC_all
theorem clc_lo {old:Dg}{m N:Nat}{mark:Bool}{p:List Dg}(h:2<=N)(hn:m≠N)(hm:m<=spl N):clc old m N mark p=((clc old m (spl N) mark p.dropLast).1,nd (clc old m (spl N) mark p.dropLast).2 (p.getLastD z16)):=clC_lo h hn hm
theorem clc_hi {old:Dg}{m N:Nat}{mark:Bool}{p:List Dg}(h:2<=N)(hn:m≠N)(hm:¬m<=spl N):clc old m N mark p=(nd (p.getLastD z16) (clc old (m-spl N) (N-spl N) false p.dropLast).1,nd (p.getLastD z16) (clc old (m-spl N) (N-spl N) false p.dropLast).2):=clC_hi h hn hm
theorem clc_len {old:Dg}(h:old.length=16):∀(c:Nat) {m N:Nat} {mark:Bool} {p:List Dg},N<=c->1<=m->m<=N->All16 p->(clc old m N mark p).1.length=16/\(clc old m N mark p).2.length=16
 | 0,m,N,mark,p,hc,h1,hm,ha=>by omega
 | c+1,m,N,mark,p,hc,h1,hm,ha=>by
   by_cases he:m=N
   . subst he
     rw[clc_all]
     cases mark with
     | true=>exact⟨h,h⟩
     | false=>exact⟨zcd ha,zcd ha⟩
   . have h2:2<=N:=by omega
     have hk:=zdi h2
     have hp:=zc4 N
     by_cases hlo:m<=spl N
     . rw[clc_lo h2 he hlo]
       exact⟨(@clc_len old h c m (spl N) mark p.dropLast (by omega) h1 hlo ha.dropLast).1,zcv _ _⟩
     . rw[clc_hi h2 he hlo]
       exact⟨zcv _ _,zcv _ _⟩
abbrev CC (old:Dg)(f:Bool)(sh:Sh)(p:List Dg)(s:Bool):Hp :=
 [(100000,.fix (.ar 16 .sc) (bAV old)),(100001,.fix .sc (.ptr 100002 [])),(100002,PS f sh p s),(100003,.fix .sc (.fn 142 [.ptr 100000 [],.ptr 100001 [],.ptr 100003 []]))]
theorem last_at (h:1<=n){p:List Dg}(hl:p.length<=1000000)(ha:All16 p){f:Bool}{sh:Sh}{s:Bool}(hs:Sd p sh sB) :
  ∃f1,call gl tab n 121 [.ptr 100000 []] [(100000,PS f sh p s)]=some (bAV (p.getLastD z16),[(100000,PS f1 sh p.dropLast (shr p s 1))],[]):=by
 by_cases hp0:p=[]
 . subst hp0
   refine⟨f,?_⟩
   rw[show shr [] s 1=true by simp[shr]]
   exact last_nil (by omega)
 . obtain rfl:sh=sB:=by rcases hs with hs|hs;exact absurd hs hp0;exact hs
   refine⟨true,?_⟩
   rw[show shr p s 1=s from by rw[zhc hp0,zfv]]
   exact last_some (by omega) hp0 hl ha
theorem Sd.dropLast {p:List Dg}{sh:Sh}(hs:Sd p sh sB):Sd p.dropLast sh sB:=by
 rcases hs with hs|hs
 . exact Or.inl (by rw[hs];rfl)
 . exact Or.inr hs
theorem shr_more (p:List Dg)(s:Bool)(k:Nat):shr p.dropLast (shr p s 1) k=shr p s (k+1):=by
 by_cases hp0:p=[]
 . subst hp0;simp[shr]
 . rw[zhc hp0 s k,zhc hp0,zfv]
theorem climbC_end (h:2<=n){old:Dg}(hf:old.length=16){m:Nat}{mark:Bool}{f:Bool}{sh:Sh}{p:List Dg}{s:Bool}(hl:p.length<=1000000)(ha:All16 p)(hs:Sd p sh sB) :
  ∃f',call gl tab n 142 [i64 m,i64 m,.bool mark,.ptr 100000 [],.ptr 100001 [],.ptr 100003 []] (CC old f sh p s)=some (.tup [bAV (clc old m m mark p).1,bAV (clc old m m mark p).2],CC old f' sh (lft p (depC m m mark)) (shr p s (depC m m mark)),[]):=by
 obtain⟨d,rfl⟩:=Nat.exists_eq_add_of_le' h
 have q2:=H.bytes_all old
 rw[clc_all,depC_all]
 cases mark with
 | true =>
   refine⟨f,?_⟩
   simp only[if_pos,zkx,zfv]
   rw[zax (fd:=fd142) rfl]
   simp(disch:=(fail_if_success intro _);omega) only[go_sem,simprocAttr,↓Nat.reduceEqDiff,xx,fd142,m142,↓out16_eq,H.oo,hf,q2]
 | false =>
   obtain⟨f1,key⟩:=@last_at gl (d+1) (by omega) p hl ha f sh s hs
   refine⟨f1,?_⟩
   have g1:=zcd ha
   have g2:=H.bytes_all (p.getLastD z16)
   simp only[Bool.false_eq_true,if_false]
   rw[lft_succ,zkx]
   generalize p.getLastD z16=r at *
   rw[zax (fd:=fd142) rfl]
   simp(disch:=(fail_if_success intro _);omega) only[go_sem,simprocAttr,↓Nat.reduceEqDiff,xx,fd142,m142,↓out16_eq,H.oo,hf,q2,key,g1,g2]
section
variable [Nonempty (GlK gl)]
theorem climbC_at :∀(c:Nat) {n:Nat} {old:Dg} {m N:Nat} {mark:Bool} {f:Bool} {sh:Sh} {p:List Dg} {s:Bool},old.length=16->N<=2^c->1<=m->m<=N->c<=60->9+c<=n->All16 p->p.length<=1000000->Sd p sh sB ->
  ∃f',call gl tab n 142 [i64 m,i64 N,.bool mark,.ptr 100000 [],.ptr 100001 [],.ptr 100003 []] (CC old f sh p s)=some (.tup [bAV (clc old m N mark p).1,bAV (clc old m N mark p).2],CC old f' sh (lft p (depC m N mark)) (shr p s (depC m N mark)),[]):=by
 intro c
 induction c with
 | zero =>
   intro n old m N mark f sh p s hf hN h1 hm hc h ha hl hs
   obtain rfl:m=N:=by have:(2:Nat)^0=1:=rfl;omega
   exact climbC_end (by omega) hf hl ha hs
 | succ c ih =>
   intro n old m N mark f sh p s hf hN h1 hm hc h ha hl hs
   by_cases he:m=N
   . subst he;exact climbC_end (by omega) hf hl ha hs
   obtain⟨d,rfl⟩:∃d,n=d+1:=⟨n-1,by omega⟩
   have h2:2<=N:=by omega
   have hk:=zdi h2
   have hp:=zc4 N
   have hle:=spl_le h2 hN
   have hge:=@spl_ge N
   have h60:2^(c+1)<=2^60:=Nat.pow_le_pow_right (by omega) (by omega)
   have hN60:N<=1152921504606846976:=by have:(2:Nat)^60=1152921504606846976:=by decide
                                        omega
   have k:=@zks gl d (by omega) N h2 (by omega)
   have q2:=H.bytes_all old
   obtain⟨f1,key⟩:=@last_at gl d (by omega) p hl ha f sh s hs
   have e1:∀k,lft p.dropLast k=lft p (k+1):=fun k=>(lft_succ p k).symm
   have g1:=zcd ha
   have g2:=H.bytes_all (p.getLastD z16)
   by_cases hlo:m<=spl N
   . obtain⟨f2,a⟩:=@ih d old m (spl N) mark f1 sh p.dropLast (shr p s 1) hf hle h1 hlo (by omega) (by omega) ha.dropLast (by rw[List.length_dropLast];omega) hs.dropLast
     rw[e1,shr_more,<-depC_lo h2 he hlo]at a
     obtain⟨u1,v1⟩:=@clc_len old hf _ m (spl N) mark p.dropLast (Nat.le_refl _) h1 hlo ha.dropLast
     have u2:=H.bytes_all (clc old m (spl N) mark p.dropLast).1
     have v2:=H.bytes_all (clc old m (spl N) mark p.dropLast).2
     have e:=@zgq gl d _ (by omega) _ _ v1 g1
     have e3:=zcv (clc old m (spl N) mark p.dropLast).2 (p.getLastD z16)
     have e4:=H.bytes_all (nd (clc old m (spl N) mark p.dropLast).2 (p.getLastD z16))
     rw[clc_lo h2 he hlo]
     refine⟨f2,?_⟩
     simp only
     generalize nd (clc old m (spl N) mark p.dropLast).2 (p.getLastD z16)=q at *
     generalize clc old m (spl N) mark p.dropLast=qa at *
     generalize p.getLastD z16=r at *
     generalize spl N=z at *
     rw[zax (fd:=fd142) rfl]
     simp(implicitDefEqProofs:=false) (disch:=(fail_if_success intro _);omega) only[go_sem,simprocAttr,↓Nat.reduceEqDiff,xx,fd142,m142,↓out16_eq,H.oo,k,key,a,e,e3,e4,g1,g2,q2,hf,u1,u2,v1,v2]
   . have ei:(m:Int)-(spl N:Int)=((m-spl N:Nat):Int):=by omega
     have eN:(N:Int)-(spl N:Int)=((N-spl N:Nat):Int):=by omega
     obtain⟨f2,a⟩:=@ih d old (m-spl N) (N-spl N) false f1 sh p.dropLast (shr p s 1) hf (by omega) (by omega) (by omega) (by omega) (by omega) ha.dropLast (by rw[List.length_dropLast];omega) hs.dropLast
     rw[e1,shr_more,<-depC_hi (mark:=mark) h2 he hlo]at a
     obtain⟨u1,v1⟩:=@clc_len old hf _ (m-spl N) (N-spl N) false p.dropLast (Nat.le_refl _) (by omega) (by omega) ha.dropLast
     have u2:=H.bytes_all (clc old (m-spl N) (N-spl N) false p.dropLast).1
     have v2:=H.bytes_all (clc old (m-spl N) (N-spl N) false p.dropLast).2
     have e:=@zgq gl d _ (by omega) _ _ g1 u1
     have e':=@zgq gl d _ (by omega) _ _ g1 v1
     have e3:=zcv (p.getLastD z16) (clc old (m-spl N) (N-spl N) false p.dropLast).1
     have e4:=H.bytes_all (nd (p.getLastD z16) (clc old (m-spl N) (N-spl N) false p.dropLast).1)
     have e5:=zcv (p.getLastD z16) (clc old (m-spl N) (N-spl N) false p.dropLast).2
     have e6:=H.bytes_all (nd (p.getLastD z16) (clc old (m-spl N) (N-spl N) false p.dropLast).2)
     rw[clc_hi h2 he hlo]
     refine⟨f2,?_⟩
     simp only
     generalize nd (p.getLastD z16) (clc old (m-spl N) (N-spl N) false p.dropLast).1=q at *
     generalize nd (p.getLastD z16) (clc old (m-spl N) (N-spl N) false p.dropLast).2=q' at *
     generalize clc old (m-spl N) (N-spl N) false p.dropLast=qa at *
     generalize p.getLastD z16=r at *
     generalize spl N=z at *
     rw[zax (fd:=fd142) rfl]
     simp(implicitDefEqProofs:=false) (disch:=(fail_if_success intro _);omega) only[go_sem,simprocAttr,↓Nat.reduceEqDiff,xx,fd142,m142,↓out16_eq,H.oo,k,key,a,e,e',e3,e4,e5,e6,g1,g2,q2,hf,u1,u2,v1,v2,ei,eN]
end
end Go.Proofs.S44.M
namespace Go.Proofs.S44.M
open Go Go.Ev Go.Proofs Go.Mk
open Go.Proofs.S44.H (GlK GlR)
variable {gl :Gl} {n:Nat}
theorem d26A :dd96.mA=[m96_0,m96_1,m96_2]:=rfl
theorem d26B :dd96.mB=m96B:=rfl
theorem zkd :dd96.fos=[(.o 29 (.l 11))]:=rfl
theorem zg2 :dd96.dargs=[(.t 29),(.t 10)]:=rfl
theorem d26fS :dd96.fS=119:=rfl
theorem d26fd :dd96.fd=fd119:=rfl
theorem ze3 :dd96.slots=[0,1,7,8,10,11]:=rfl
theorem d26d :dd96.d=41000:=rfl
theorem d26dd :dd96.dd=51000:=rfl
theorem zkc :dd96.res=[.cell 10 false 1]:=rfl
theorem checkC_bad (h:2<=n){old root:Dg}{m N:Int}{f:Bool}{sh:Sh}{p:List Dg}(hb:m<0\/m>N\/N>1099511627776)(hf:old.length=16)(hr:root.length=16) :
  call gl tab n 96 [i64 m,i64 N,bAV old,bAV root,.lst f sh (dgL p)] []=some (.bool false,[],[]):=by
 obtain⟨d,rfl⟩:=Nat.exists_eq_add_of_le' h
 have l1:=b16t hf
 have l2:=H.bytes_all old
 have r1:=b16t hr
 have r2:=H.bytes_all root
 rw[call_df (fd:=fd96) rfl]
 by_cases h1:m<0
 . simp(disch:=(fail_if_success intro _);omega) only[go_sem,simprocAttr,↓Nat.reduceEqDiff,xx,d26A,d26B,zkd,zg2,d26fS,d26fd,ze3,d26d,d26dd,zkc,m96_0,m96_1,↓out16_eq,H.oo,hf,hr,l1,l2,r1,r2]
 by_cases h2:m>N
 . simp(disch:=(fail_if_success intro _);omega) only[go_sem,simprocAttr,↓Nat.reduceEqDiff,xx,d26A,d26B,zkd,zg2,d26fS,d26fd,ze3,d26d,d26dd,zkc,m96_0,m96_1,↓out16_eq,H.oo,hf,hr,l1,l2,r1,r2]
 have h3:N>1099511627776:=by omega
 simp(disch:=(fail_if_success intro _);omega) only[go_sem,simprocAttr,↓Nat.reduceEqDiff,xx,d26A,d26B,zkd,zg2,d26fS,d26fd,ze3,d26d,d26dd,zkc,m96_0,m96_1,↓out16_eq,H.oo,hf,hr,l1,l2,r1,r2]
section
variable [Nonempty (GlK gl)]
theorem body26_zero (h:59<=n){old root:Dg}{N:Nat}{f:Bool}{sh:Sh}{p:List Dg}(hN2:N<=1099511627776)(hf:old.length=16)(hr:root.length=16)(hl:p.length<=1000000) :
  ∃hp,evDfB dd96 gl (call gl tab n) [i64 0,i64 N,.ptr 100000 [],.ptr 100001 [],.ptr 100002 [],.ptr 100003 []] [.ptr 100004 [],.ptr 100002 []]
   [(100000,.fix (.ar 16 .sc) (bAV old)),(100001,.fix (.ar 16 .sc) (bAV root)),(100002,.fix .sc (.bool false)),(100003,.fix .sc (.ptr 100004 [])),(100004,PS f sh p false)] =
   some (.bool (decide (p.length=0/\old=em)),[(100000,.fix (.ar 16 .sc) (bAV old)),(100001,.fix (.ar 16 .sc) (bAV root)),(100002,.fix .sc (.bool (decide (p.length=0/\old=em)))),(100003,.fix .sc (.ptr 100004 [])),(100004,hp)],[]):=by
 have l1:=b16t hf
 have l2:=H.bytes_all old
 have r1:=b16t hr
 have r2:=H.bytes_all root
 have e:=@empty_at gl n _ (by omega)
 have e1:=em_len
 have e2:=H.bytes_all em
 have c2:=eqB hf e1
 have hD:(decide (old=em)&& !false&&decide (p.length=0))=decide (p.length=0/\old=em):=by
  rw[Bool.eq_iff_iff];simp[and_comm]
 have st1:=@zld gl dd96 d26fd (call gl tab n) 119 f sh p false (decide (old=em))
 rw[hD]at st1
 refine⟨PS f sh p false,?_⟩
 generalize decide (p.length=0/\old=em)=b2 at *
 generalize hb:decide (old=em)=b at *
 generalize em=q at *
 rw[evDfB_at]
 simp(disch:=(fail_if_success intro _);omega) only[go_sem,simprocAttr,↓Nat.reduceEqDiff,xx,d26A,d26B,zkd,zg2,d26fS,d26fd,ze3,d26d,d26dd,zkc,m96B,hf,hr,l1,l2,r1,r2,e,e1,e2,c2,zfn,st1]
theorem body26 (h:59<=n){old root:Dg}{m N:Nat}{f:Bool}{sh:Sh}{p:List Dg}(hm:1<=m)(hN:m<=N)(hN2:N<=1099511627776)(hf:old.length=16)(hr:root.length=16)(ha:All16 p)(hl:p.length<=1000000)(hs:Sd p sh sB) :
  ∃hp,evDfB dd96 gl (call gl tab n) [i64 m,i64 N,.ptr 100000 [],.ptr 100001 [],.ptr 100002 [],.ptr 100003 []] [.ptr 100004 [],.ptr 100002 []]
   [(100000,.fix (.ar 16 .sc) (bAV old)),(100001,.fix (.ar 16 .sc) (bAV root)),(100002,.fix .sc (.bool false)),(100003,.fix .sc (.ptr 100004 [])),(100004,PS f sh p false)] =
   some (.bool (decide (p.length=depC m N true/\clc old m N true p=(old,root))),[(100000,.fix (.ar 16 .sc) (bAV old)),(100001,.fix (.ar 16 .sc) (bAV root)),(100002,.fix .sc (.bool (decide (p.length=depC m N true/\clc old m N true p=(old,root))))),(100003,.fix .sc (.ptr 100004 [])),(100004,hp)],[]):=by
 have l1:=b16t hf
 have l2:=H.bytes_all old
 have r1:=b16t hr
 have r2:=H.bytes_all root
 have h40:N<=2^40:=by have:(2:Nat)^40=1099511627776:=by decide
                      omega
 obtain⟨f2,a⟩:=@climbC_at gl _ 40 n old m N true f sh p false hf h40 hm hN (by omega) (by omega) ha hl hs
 obtain⟨u1,v1⟩:=@clc_len old hf _ m N true p (Nat.le_refl _) hm hN ha
 have u2:=H.bytes_all (clc old m N true p).1
 have v2:=H.bytes_all (clc old m N true p).2
 have c1:=eqB u1 hf
 have c2:=eqB v1 hr
 have hL2:(lft p (depC m N true)).length=p.length-depC m N true:=by rw[lft,List.length_take];omega
 have hS:shr p false (depC m N true)=decide (p.length<depC m N true):=by simp[shr]
 rw[hS]at a
 have hD:((decide ((clc old m N true p).1=old)&&decide ((clc old m N true p).2=root))&& !(decide (p.length<depC m N true))&&decide ((lft p (depC m N true)).length=0))=decide (p.length=depC m N true/\clc old m N true p=(old,root)):=by
  rw[hL2,Bool.eq_iff_iff]
  simp only[Bool.and_eq_true,decide_eq_true_eq,Bool.not_eq_true',decide_eq_false_iff_not,Prod.ext_iff]
  constructor
  . rintro ⟨⟨h1,h2⟩,h3⟩;exact⟨by omega,h1⟩
  . rintro ⟨h1,h2⟩;exact⟨⟨h2,by omega⟩,by omega⟩
 have st:=fun b=>@zld gl dd96 d26fd (call gl tab n) 119 f2 sh (lft p (depC m N true)) (decide (p.length<depC m N true)) b
 refine⟨PS f2 sh (lft p (depC m N true)) (decide (p.length<depC m N true)),?_⟩
 generalize clc old m N true p=q at *
 have st1:=st (decide (q.1=old)&&decide (q.2=root))
 rw[hD]at st1
 generalize decide (p.length=depC m N true/\q=(old,root))=b2 at *
 generalize decide (q.1=old)=b at *
 generalize decide (q.2=root)=b' at *
 generalize lft p (depC m N true)=p2 at *
 generalize depC m N true=k at *
 rw[evDfB_at]
 cases b with
 | false =>
   rw[Bool.false_and]at st1
   simp(disch:=(fail_if_success intro _);omega) only[go_sem,simprocAttr,↓Nat.reduceEqDiff,xx,d26A,d26B,zkd,zg2,d26fS,d26fd,ze3,d26d,d26dd,zkc,m96B,↓out16_eq,H.oo,hf,hr,l1,l2,r1,r2,a,u1,u2,v1,v2,c1,c2,zfn,st1]
 | true =>
   rw[Bool.true_and]at st1
   simp(disch:=(fail_if_success intro _);omega) only[go_sem,simprocAttr,↓Nat.reduceEqDiff,xx,d26A,d26B,zkd,zg2,d26fS,d26fd,ze3,d26d,d26dd,zkc,m96B,↓out16_eq,H.oo,hf,hr,l1,l2,r1,r2,a,u1,u2,v1,v2,c1,c2,zfn,st1]
theorem checkC_zero (h:60<=n){old root:Dg}{N:Nat}{f:Bool}{sh:Sh}{p:List Dg}(hN2:N<=1099511627776)(hf:old.length=16)(hr:root.length=16)(hl:p.length<=1000000) :
  call gl tab n 96 [i64 0,i64 N,bAV old,bAV root,.lst f sh (dgL p)] []=some (.bool (decide (p.length=0/\old=em)),[],[]):=by
 obtain⟨d,rfl⟩:=Nat.exists_eq_add_of_le' h
 have l1:=b16t hf
 have l2:=H.bytes_all old
 have r1:=b16t hr
 have r2:=H.bytes_all root
 obtain⟨hp,a⟩:=@body26_zero gl (d+59) _ (by omega) old root N f sh p hN2 hf hr hl
 generalize decide (p.length=0/\old=em)=b at *
 rw[call_df (fd:=fd96) rfl]
 simp(disch:=(fail_if_success intro _);omega) only[go_sem,simprocAttr,↓Nat.reduceEqDiff,xx,d26A,d26B,zkd,zg2,d26fS,d26fd,ze3,d26d,d26dd,zkc,m96_0,m96_1,m96_2,↓out16_eq,H.oo,hf,hr,l1,l2,r1,r2,a]
theorem checkC_ok (h:60<=n){old root:Dg}{m N:Nat}{f:Bool}{sh:Sh}{p:List Dg}(hm:1<=m)(hN:m<=N)(hN2:N<=1099511627776)(hf:old.length=16)(hr:root.length=16)(ha:All16 p)(hl:p.length<=1000000)(hs:Sd p sh sB) :
  call gl tab n 96 [i64 m,i64 N,bAV old,bAV root,.lst f sh (dgL p)] []=some (.bool (decide (p.length=depC m N true/\clc old m N true p=(old,root))),[],[]):=by
 obtain⟨d,rfl⟩:=Nat.exists_eq_add_of_le' h
 have l1:=b16t hf
 have l2:=H.bytes_all old
 have r1:=b16t hr
 have r2:=H.bytes_all root
 obtain⟨hp,a⟩:=@body26 gl (d+59) _ (by omega) old root m N f sh p hm hN hN2 hf hr ha hl hs
 generalize decide (p.length=depC m N true/\clc old m N true p=(old,root))=b at *
 rw[call_df (fd:=fd96) rfl]
 simp(disch:=(fail_if_success intro _);omega) only[go_sem,simprocAttr,↓Nat.reduceEqDiff,xx,d26A,d26B,zkd,zg2,d26fS,d26fd,ze3,d26d,d26dd,zkc,m96_0,m96_1,m96_2,↓out16_eq,H.oo,hf,hr,l1,l2,r1,r2,a]
end
end Go.Proofs.S44.M
