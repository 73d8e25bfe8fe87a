/-
  Chapter 44: the examples' values. No condition.
-/
import Derived.Test.YtcddalfeicoedaaGreatDoorW44G20x4
import Derived.Test.YtcddalfeicoedaaGreatDoorW44G18x4
import Derived.Test.YtcddalfeicoedaaGreatDoorW44G1x4
set_option linter.all false
open Nat renaming exists_eq_add_of_le'->wA,le_refl->wB,min_eq_left->wC
open List renaming length_take->wD
namespace Go.Proofs.S44.L
open Go Go.Ev Go.Proofs Go.Proofs.S44
open Go.Proofs.S44.H (strsAV zaa zaj Sml GlK GlR zal zbk nsI zak zem zint zat encB zaw zae dig inp)
open Go.Proofs.S44.M (lf zde Dg dgL dgL_length All16 Sd sB pkAV grw)
variable {gl :Gl} {n:Nat}
def zRe (m:Int):Re:={site:=3,seq:=0,ad:=[],cl:=[],co:=[],sx:=0,lo:=0,hi:=0,hs:=[],tk:=⟨0,0,[],[],zB⟩,pol:=zB,rl:=⟨[],[],[],0,0,0,0,[],zCd,false,0,[]⟩,us:=0,sp:=⟨[],[],0,0,zB,[],0,0,0,0,zB⟩,mo:=m,fr:=0,to:=0,dat:=zB,le:=⟨0,0,0,0,zB⟩,he:=0,ca:=0}
theorem r0 :R64 0:=by unfold R64;omega
theorem r3 :R64 3:=by unfold R64;omega
theorem qgq :CdR zCd:=⟨r0,r0,r0,by simp[zCd],by simp[zCd],by simp[zCd],by simp[zCd],by simp[zCd],by simp[zCd],by simp[zCd]⟩
theorem qgp :CdS zCd:=⟨by simp[zCd],⟨by simp[zCd],by simp[zCd]⟩,⟨by simp[zCd],by simp[zCd]⟩,by simp[zCd]⟩
theorem few6 {a b c d e f:Int}(h1:R64 a)(h2:R64 b)(h3:R64 c)(h4:R64 d)(h5:R64 e)(h6:R64 f):zbk [a,b,c,d,e,f]:=zbo h1 (zbo h2 (zbo h3 (zbo h4 (zbo h5 (zbo h6 zgu (by simp)) (by simp)) (by simp)) (by simp)) (by simp)) (by simp)
theorem few4 {a b c d:Int}(h:R64 a)(h2:R64 b)(h3:R64 c)(h4:R64 d):zbk [a,b,c,d]:=zbo h (zbo h2 (zbo h3 (zbo h4 zgu (by simp)) (by simp)) (by simp)) (by simp)
theorem zR {m:Int}(hm:R64 m):ReR (zRe m) where
 i:=⟨⟨r3,r0,hm,r0,r0,r0,r0,r0⟩,r0,r0,r0⟩
 a:=⟨by simp[zRe],by simp[zRe],by simp[zRe]⟩
 h:=by simp[zRe]
 hh:=by simp[zRe]
 t:=⟨⟨r0,r0⟩,by simp[zRe],by simp[zRe],by simp[zRe]⟩
 tc:=by simp[zRe]
 p:=by simp[zRe]
 r:=⟨⟨r0,r0,r0,r0,r0⟩,⟨by simp[zRe],by simp[zRe],by simp[zRe]⟩,by simp[zRe],by simp[zRe]⟩
 rt:=by simp[zRe]
 rv:=by simp[zRe]
 ra:=qgq
 s:=⟨few6 r0 r0 r0 r0 r0 r0,by simp[zRe],by simp[zRe]⟩
 sb:=⟨by simp[zRe],by simp[zRe],by simp[zRe]⟩
 d:=by simp[zRe]
 l:=⟨few4 r0 r0 r0 r0,by simp[zRe]⟩
theorem zS (m:Int):ReS (zRe m) where
 h:=by simp[zRe]
 c:=by simp[zRe]
 v:=by simp[zRe]
 t:=⟨by simp[zRe],by simp[zRe]⟩
 a:=qgp
 hh:=by simp[zRe]
 cc:=by simp[zRe]
 vv:=by simp[zRe]
 w:=⟨by simp[zRe],by simp[zRe]⟩
 s:=⟨by simp[zRe],by simp[zRe],by simp[zRe]⟩
abbrev zA (m:Int):AV:=.agg [i64 3,i64 0,.agg [.str [],.str [],.str [],i64 0,.agg [i64 0,i64 0]],.lst true .sc [],.agg [i64 0,i64 0,.str [],.lst true .sc [],.agg H.out16l],.agg H.out16l,.agg [.str [],.str [],.lst true .sc [],i64 0,i64 0,i64 0,i64 0,.lst true .sc [],.agg [i64 0,i64 0,.str [],.lst true .sc [],.lst true .sc [],.lst true .sc [],i64 0],.bool false,i64 0,.str []],i64 0,.agg [.str [],.str [],i64 0,i64 0,.agg H.out16l,.str [],.agg [i64 0,i64 0],i64 0,i64 0,.agg H.out16l],i64 m,.agg [i64 0,i64 0],.agg H.out16l,.agg [i64 0,i64 0,i64 0,i64 0,.agg H.out16l],i64 0,i64 0]
theorem qgr (m:Int):zA m=z3v (zRe m):=rfl
def zV (m:Int):Rv:=⟨3,0,match zA m with| .agg (_::_::r)=>r|_=>[],leaf (zRe m)⟩
theorem qgo (m:Int):rvAV (zV m)=zA m:=rfl
theorem qcf [Nonempty (GlK gl)]{m:Int}(hm:R64 m):RvOk gl (zV m):=⟨by rfl,zey _,fun n h=>by
 rw[qgo,qgr];exact z4c h (zR hm) (zS m) rfl rfl rfl rfl⟩
theorem zne :leaf (zRe 1)≠leaf (zRe 0):=by decide +kernel
end Go.Proofs.S44.L
namespace Go.Proofs.S44.L
open Go Go.Ev Go.Proofs Go.Proofs.S44
open Go.Proofs.S44.H (strsAV zaa zaj Sml GlK GlR zal zbk nsI zak zem zint zat encB zaw zae dig inp)
open Go.Proofs.S44.M (lf zde Dg dgL dgL_length All16 Sd sB pkAV grw)
variable {gl :Gl} {n:Nat}
abbrev lz :AV:=.agg [i64 0,.lst true .sc [],.agg [i64 0,.lst true .sc []],.lst true .sc []]
theorem zzo (h:2<=n)(a:Int):call gl tab n 11 [i64 a] []=some (.tup [if 0<=a/\a<64 then .agg [i64 a,.lst true .sc [],.agg [i64 0,.lst true .sc []],.lst true .sc []]else lz,i64 (if 0<=a/\a<64 then 0 else 1)],[],[]):=by
 obtain⟨d,rfl⟩:=wA h
 have c:=@site_at gl (d+1) (by omega) a
 rw[zaf (fd:=fd11) rfl]
 by_cases hs:0<=a/\a<64
 . rw[decide_eq_true hs]at c
   rw[if_pos hs,if_pos hs]
   simp(disch:=apply zq;omega) only[go_sem,simprocAttr,↓Nat.reduceEqDiff,xx,fd11,m11,c]
 . rw[decide_eq_false hs]at c
   rw[if_neg hs,if_neg hs]
   simp(disch:=apply zq;omega) only[go_sem,simprocAttr,↓Nat.reduceEqDiff,xx,fd11,m11,c]
def k3 :Ky:=⟨1003,1,[115],0,1099511627776⟩
theorem k3_v :VK k3:=⟨by decide,by decide,by decide,by decide,by decide⟩
theorem k3_r :VR [k3]:=⟨by decide,fun i hi=>by
 match i,hi with
 | 0,_=>exact⟨k3_v,fun h=>absurd h (by decide)⟩⟩
theorem qaf (h:1<=n):call gl tab n 20 [i64 3] []=some (.agg [i64 1003,i64 1,.str [115],i64 0,i64 1099511627776],[],[]):=by
 obtain⟨d,rfl⟩:=wA h
 rw[zaf (fd:=fd20) rfl]
 simp(disch:=apply zq;omega) only[go_sem,simprocAttr,↓Nat.reduceEqDiff,xx,fd20,m20]
theorem z0m (g:Dg):hdC [k3] (hdS k3 (hd0 3 1 g 10 20))=0:=by
 have e:hdP (hdS k3 (hd0 3 1 g 10 20))=hdP (hdK k3 (hd0 3 1 g 10 20)):=rfl
 have fn1:fnK [k3] 1003 1=some k3:=rfl
 rw[hdC,if_pos (show zio (hdS k3 (hd0 3 1 g 10 20)).site=true from(by decide:zio (3:Int)=true))]
 show ckE [k3] (1000+3) 1 44 (hdP (hdS k3 (hd0 3 1 g 10 20))) (sea k3.k 44 (hdP (hdK k3 (hd0 3 1 g 10 20)))) 10 20=0
 unfold ckE
 rw[show(1000+3:Int)=1003 from rfl,fn1,e]
 simp only
 rw[if_pos (by decide),if_pos trivial]
theorem qft (g' g:Dg):ckI g' 0 1 [] g=decide (g'=g):=by
 unfold ckI
 rw[Bool.eq_iff_iff,decide_eq_true_eq,decide_eq_true_eq]
 have e1:Mk.dep (Int.toNat 0) (Int.toNat 1)=0:=Mk.dep_one (by decide)
 have e2:Mk.cl M.nd M.z16 g' (Int.toNat 0) (Int.toNat 1) []=g':=by rw[Mk.cl,dif_neg (by decide)]
 rw[e1,e2]
 exact⟨fun h=>h.2.2,fun h=>⟨by omega,rfl,h⟩⟩
abbrev lA1 (g:Dg):AV:=.agg [i64 3,.lst false sRe [zA 0],.agg [i64 1,.lst false sB [.agg (zac g)]],.lst true .sc []]
abbrev hA1 (g sg:Dg):AV:=.agg [i64 3,i64 1,.agg (zac g),.agg [i64 10,i64 20],i64 1,.agg (zac sg)]
set_option maxHeartbeats 2000000 in
theorem zyw [Nonempty (GlK gl)][Nonempty (M.GlB gl)](h:1010<=n):call gl tab n 10 [] []=some (.bool true,[],[]):=by
 obtain⟨d,rfl⟩:=wA h
 have b1:=@zzo gl (d+1009) (by omega) 3
 rw[if_pos (by decide),if_pos (by decide)]at b1
 have b2:=@zzo gl (d+1009) (by omega) 64
 rw[if_neg (by decide),if_neg (by decide)]at b2
 have v0:=qcf (gl:=gl) r0
 have v1:=qcf (gl:=gl) (m:=1) (by unfold R64;omega)
 have a1:=z7p (gl:=gl) (n:=d+1009) (s:=3) (f:=true) (f2:=true) (f3:=true) (sh:=.sc) (sh2:=.sc) (sh3:=.sc) (l:=[]) (t:=[]) (U:=[]) (by omega) (z:=0) v0 (by simp) (.inl rfl) rfl rfl (by simp) (by intro y hy;simp at hy) (.inl rfl) (by omega) ⟨by omega,by omega,Mk.pcn_0.symm⟩
 rw[grw1]at a1
 have a2:=qb1 (gl:=gl) (n:=d+1009) (s:=3) (f:=false) (f2:=false) (f3:=true) (sh:=sRe) (sh2:=sB) (sh3:=.sc) (l:=[zV 0]) (t:=[(zV 0).f]) (U:=[]) (z:=1) (by omega) v0 (by simp) (fun h=>absurd h.2 (by decide))
 have g16:=v0.f
 have se:=zyr (gl:=gl) (n:=d+1009) (s:=3) (z:=1) (lo:=10) (hi:=20) (f:=false) (f2:=false) (f3:=true) (sh:=sRe) (sh2:=sB) (sh3:=.sc) (l:=[zV 0]) (t:=[(zV 0).f]) (hs:=[]) (k:=k3) (root:=(zV 0).f) (by omega) k3_v (by omega) (by decide) (by unfold CV;omega) g16 (fun n hn=>top1 hn g16) (by simp) (.inl rfl) (by simp) (by simp) (.inl rfl)
 have hok:HdOk (hdS k3 (hd0 3 1 (zV 0).f 10 20)):=z0k k3_v.ok ⟨zbo r3 (few4 (show R64 1 by unfold R64;omega) (show R64 10 by unfold R64;omega) (show R64 20 by unfold R64;omega) r0) (by simp),g16,by simp⟩
 have pr:=zua (gl:=gl) (n:=d+1009) (s:=3) (z:=1) (f:=false) (f2:=false) (f3:=false) (sh:=sRe) (sh2:=sB) (sh3:=sHd) (l:=[zV 0]) (t:=[(zV 0).f]) (hs:=[hdS k3 (hd0 3 1 (zV 0).f 10 20)]) (by omega) (.inr rfl) (by simp) (fun x hx=>by simp at hx;subst hx;exact v0) (.inr rfl) (by simp) (fun x hx=>by simp at hx;subst hx;exact hok) (h:=hdS k3 (hd0 3 1 (zV 0).f 10 20)) (by simp) (k:=1) (i:=0) rfl (by simp) (by omega)
 rw[show fs ([zV 0].take 1)=[(zV 0).f]from rfl,qjq]at pr
 have c0:=zoj (gl:=gl) (n:=d+1009) (fr:=false) (m:=sY) (ring:=[k3]) (by omega) (.inr rfl) k3_r v0 hok (f:=false) (sh:=sB) (p:=[]) (by intro y hy;simp at hy) (by simp) (.inr rfl)
 have c1:=zoj (gl:=gl) (n:=d+1009) (fr:=false) (m:=sY) (ring:=[k3]) (by omega) (.inr rfl) k3_r v1 hok (f:=false) (sh:=sB) (p:=[]) (by intro y hy;simp at hy) (by simp) (.inr rfl)
 have va:=zya (gl:=gl) (n:=d+1009) (by omega) (s:=3) (by omega) (f:=false) (f2:=false) (f3:=false) v0 rfl rfl (y:=hdS k3 (hd0 3 1 (zV 0).f 10 20)) hok rfl rfl rfl
 have lf0:=v0.l (d+1009) (by omega)
 have q0:ckS [k3] (zV 0) (hdS k3 (hd0 3 1 (zV 0).f 10 20)) []=0:=by
  unfold ckS
  rw[z0m]
  show fE [mE (3==3) 1,0,mE (ckI (zV 0).f 0 1 [] (zV 0).f) 3]=0
  rw[qft,decide_eq_true rfl];rfl
 have q1:ckS [k3] (zV 1) (hdS k3 (hd0 3 1 (zV 0).f 10 20)) []=3:=by
  unfold ckS
  rw[z0m]
  show fE [mE (3==3) 1,0,mE (ckI (zV 1).f 0 1 [] (zV 0).f) 3]=3
  rw[qft,decide_eq_false (show ¬(zV 1).f=(zV 0).f from zne)];rfl
 rw[q0]at c0
 rw[q1]at c1
 clear q0 q1 v0 v1 hok
 have ky:=@qaf gl (d+1009) (by omega)
 have key:∀g sg:List UInt8,g=(zV 0).f->sg=(hdS k3 (hd0 3 1 (zV 0).f 10 20)).sgn->call gl tab (d+1010) 10 [] []=some (.bool true,[],[]):=fun g sg hg hsg=>by
  rw[<-hg]at hsg g16
  rw[<-hg]at a1 a2 se pr c0 c1 va lf0
  replace a1:call gl tab (d+1009) 16 [.agg [i64 3,.lst true .sc [],.agg [i64 0,.lst true .sc []],.lst true .sc []],zA 0] []=some (.tup [lA1 g,i64 0],[],[]):=a1
  replace a2:call gl tab (d+1009) 16 [lA1 g,zA 0] []=some (.tup [lA1 g,i64 1],[],[]):=a2
  have eh:hdAV (hdS k3 (hd0 3 1 g 10 20))=hA1 g sg:=by rw[hsg];rfl
  replace se:call gl tab (d+1009) 18 [lA1 g,.agg [i64 1003,i64 1,.str [115],i64 0,i64 1099511627776],.agg [i64 10,i64 20]] []=some (.tup [.agg [i64 3,.lst false sRe [zA 0],.agg [i64 1,.lst false sB [.agg (zac g)]],.lst false sHd [hdAV (hdS k3 (hd0 3 1 g 10 20))]],hdAV (hdS k3 (hd0 3 1 g 10 20)),i64 0],[],[]):=se
  replace pr:call gl tab (d+1009) 21 [.agg [i64 3,.lst false sRe [zA 0],.agg [i64 1,.lst false sB [.agg (zac g)]],.lst false sHd [hdAV (hdS k3 (hd0 3 1 g 10 20))]],i64 0,hdAV (hdS k3 (hd0 3 1 g 10 20))] []=some (.tup [.agg [zA 0,hdAV (hdS k3 (hd0 3 1 g 10 20)),.lst false sB []],i64 0],[],[]):=pr
  replace c0:call gl tab (d+1009) 22 [.lst false sY [.agg [i64 1003,i64 1,.str [115],i64 0,i64 1099511627776]],.agg [zA 0,hdAV (hdS k3 (hd0 3 1 g 10 20)),.lst false sB []]] []=some (i64 0,[],[]):=c0
  replace c1:call gl tab (d+1009) 22 [.lst false sY [.agg [i64 1003,i64 1,.str [115],i64 0,i64 1099511627776]],.agg [zA 1,hdAV (hdS k3 (hd0 3 1 g 10 20)),.lst false sB []]] []=some (i64 3,[],[]):=c1
  replace va:call gl tab (d+1009) 15 [.agg [i64 3,.lst false sRe [zA 0],.agg [i64 1,.lst false sB [.agg (zac g)]],.lst false sHd [hdAV (hdS k3 (hd0 3 1 g 10 20))]]] []=some (.bool true,[],[]):=va
  replace lf0:call gl tab (d+1009) 28 [zA 0] []=some (.agg (zac g),[],[]):=lf0
  have sg16:sg.length=16:=by rw[hsg];exact zok _ _ _
  rw[eh]at se pr c0 c1 va
  clear eh hsg hg
  have u1:=b16 g16
  have u2:=b16 sg16
  have w1:=H.bytes_all g
  have w2:=H.bytes_all sg
  have q:=eqB g16 g16
  rw[decide_eq_true rfl]at q
  rw[zaf (fd:=fd10) rfl]
  simp(maxSteps:=1000000) (disch:=apply zq;omega) only[go_sem,simprocAttr,↓Nat.reduceEqDiff,xx,fd10,m10,↓out16_eq,b1,b2,a1,a2,ky,se,pr,c0,c1,va,lf0,u1,u2,w1,w2,q,g16,sg16,zab,H.oo]
 exact key _ _ rfl rfl
end Go.Proofs.S44.L
namespace Go.Proofs.S44.L
open Go Go.Ev Go.Proofs Go.Proofs.S44
open Go.Proofs.S44.H (strsAV zaa zaj Sml GlK GlR)
open Go.Proofs.S44.M (lf zde Dg dgL dgL_length All16 Sd sB pkAV grw)
variable {gl :Gl} {n:Nat}
def RvR (gl:Gl)(x:Rv):Prop:=∀n,12<=n->call gl tab n 26 [rvAV x] []=some (bAV x.f,[],[])
def S49 (k:Nat)(ld:AV)(l:List Rv)(i:Nat):St:=⟨[.set 6 (i64 i),.set 5 (.sl 5005 [] 0 i),.set 2 (.ptr 2 []),.set 1 (i64 k)],[(2,.fix sLd ld),(5005,.grow (.ar 16 .sc) (dgL ((fs l).take i)))]⟩
section
variable {s z:Int} {f f2 f3:Bool} {sh sh2 sh3:Sh} {l:List Rv} {t:List Dg} {U:List AV}
end
end Go.Proofs.S44.L
namespace Go.Proofs.S44.M
open Go Go.Ev Go.Proofs Go.Mk Go.Proofs.S44
open Go.Proofs.S44.H (GlK GlR)
variable {gl :Gl} {n:Nat}
def P8 (l:List Dg)(k:Nat):List Dg:=pk nd em (l.take k)
def R8 (l:List Dg)(k:Nat):Dg:=rt nd em (l.take k)
theorem P8_zero (l:List Dg):P8 l 0=[]:=zij
theorem z2t {l:List Dg}{k:Nat}(h:k<=l.length):(P8 l k).length=pcn k:=by
 rw[P8,zzf _ _ (wB _),wD,wC h]
theorem zzg :∀(q n:Nat),n<=q->pcn n<=n
 | q,n,h=>by
   by_cases h0:n=0
   . subst h0;rw[pcn_0];omega
   . match q,h with
     | 0,h=>omega
     | q+1,h=>rw[pcn_two];have:=zzg q (n/2) (by omega);omega
theorem P8_le (l:List Dg)(hl:l.length<=60000){k:Nat}(hk:k<=l.length):(P8 l k).length<=60000:=by
 rw[z2t hk];have:=zzg _ k (wB _);omega
theorem P8_form {l:List Dg}{k:Nat}(h:k<=l.length)(hl:l.length<=60000):Form k (P8 l k):=⟨by omega,by omega,by rw[z2t h,Int.toNat_natCast]⟩
theorem P8_ne {l:List Dg}{k:Nat}(h:k+1<=l.length):P8 l (k+1)≠[]:=by
 obtain⟨d,r,e⟩:=@qdp Dg nd em (l.take (k+1)) (by rw[wD];omega)
 rw[P8,e];simp
theorem P8_next {l:List Dg}{k:Nat}(h:k<l.length):grw k (P8 l k) (dgA l k)=P8 l (k+1):=by
 have hle:tr1 k<=(P8 l k).length:=by rw[z2t (by omega)];exact ztu _ _ (wB _)
 rw[qas em hle]
 have e:=@qf6 Dg nd em em _ (l.take k) (dgA l k) (wB _)
 rw[wD,wC (by omega)]at e
 rw[P8,P8,e,List.take_succ_eq_append_getElem h]
 congr 2
 simp[dgA,h]
theorem P8_all :∀(l:List Dg) (k:Nat),k<=l.length->All16 l->All16 (P8 l k)
 | l,0,h,ha=>by rw[P8_zero];exact All16.nil
 | l,k+1,h,ha=>by
   rw[<-P8_next (by omega),grw]
   exact((P8_all l k (by omega) ha).take _).app (.one (zrr _ (ha.at (by omega))))
theorem R8_len {l:List Dg}(ha:All16 l)(k:Nat):(R8 l k).length=16:=zlc (ha.take _)
theorem topV8 (l:List Dg)(k:Nat):topV (P8 l k)=R8 l k:=by rw[ztw,P8,qcl _ _ (wB _),R8]
def S34 (f f':Bool)(k k':Sh)(a b:List Dg)(i:Nat):St:=⟨[.set 5 (i64 i),.set 1 (.lst f' k' (dgL b)),.set 0 (.lst f k (dgL a))],[]⟩
end Go.Proofs.S44.M
namespace Go.Proofs.S44.L
open Go Go.Ev Go.Proofs Go.Proofs.S44
open Go.Proofs.S44.H (strsAV zaa zaj Sml GlK GlR)
open Go.Proofs.S44.M (lf zde Dg dgL dgL_length All16 Sd sB pkAV grw P8 R8)
variable {gl :Gl} {n:Nat}
def HV (s:Int)(l:List Rv)(hs:List Hd)(k:Nat):Prop :=
 (hdat hs k).site=s/\0<=(hdat hs k).size/\(hdat hs k).size<=l.length/\(hdat hs k).root=R8 (fs l) (hdat hs k).size.toNat /\
   (0<k->(hdat hs (k-1)).size<=(hdat hs k).size/\(hdat hs (k-1)).lo<=(hdat hs k).lo)
def RV (s:Int)(l:List Rv)(i:Nat):Prop:=(rat l i).site=s/\(rat l i).seq=i
def VL (s:Int)(l:List Rv)(z:Int)(t:List Dg)(hs:List Hd):Prop :=
 (0<=s/\s<64)/\(∀i,i<l.length->RV s l i)/\(z=l.length/\t=P8 (fs l) l.length)/\∀k,k<hs.length->HV s l hs k
section
variable {s z:Int} {f f2 f3:Bool} {sh sh2 sh3:Sh} {l:List Rv} {t:List Dg} {hs:List Hd}
variable [Nonempty (GlR gl)]
end
end Go.Proofs.S44.L
