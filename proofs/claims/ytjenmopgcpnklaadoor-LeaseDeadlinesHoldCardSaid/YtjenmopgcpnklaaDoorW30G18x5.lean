/-
  Chapter 30: the examples. No condition.
-/
import Derived.Test.YtjenmopgcpnklaaDoorW30G17x5
set_option linter.unusedVariables false
set_option linter.unusedSimpArgs false
set_option linter.unusedSectionVars false
namespace Go.Proofs.S30.G
open Go Go.Ev Go.Proofs Go.Ck
open Go.Proofs.S30.H (GlK GlR)
variable {gl :Gl} {n:Nat}
def g1 :List Gt:=[⟨1,0,1100⟩]
def g2 :List Gt:=[⟨1,0,1100⟩,⟨2,0,600⟩]
def g3 :List Gt:=[⟨1,1,1100⟩,⟨2,0,600⟩]
theorem ok1 :GOk 0 1000 [] 1 kk 100 110 1000:=⟨by decide,by decide,by decide,by decide,by decide,kk_v,rfl⟩
theorem ok2 :GOk 0 1000 g1 2 kk 100 110 500:=⟨by decide,by decide,by decide,by decide,by decide,kk_v,rfl⟩
theorem ok3 :GOk 1 1000 g3 2 kk 100 110 500:=⟨by decide,by decide,by decide,by decide,by decide,kk_v,rfl⟩
theorem take0 :tkE [kk] ⟨2,0,⟨0,0,0,0,zB⟩⟩ (leG kk 2 0 600)=(⟨2,0,leG kk 2 0 600⟩,0):=by
 have e2:(leG kk 2 0 600).site=2:=rfl
 have e3:(leG kk 2 0 600).til=600:=rfl
 have e4:(leG kk 2 0 600).ep=0:=rfl
 rw[tkE,if_neg (fun h=>h ⟨by decide,e2⟩),if_neg (fun h=>h (leC_own (by decide) (by decide) (by decide))),e4,e3]
 rfl
theorem sanity_go {a b:Le}(ha:a.sgn.length=16)(hb:b.sgn.length=16)(ta:a.til=1100)(tb:b.til=600)
  (c8:call gl tab n 8 [i64 1000] []=some (.tup [.agg [i64 0,i64 1000,.lst true .sc []],i64 0],[],[]))
  (c25:call gl tab n 25 [] []=some (.agg [i64 1,i64 1,.str [115],i64 0,i64 1099511627776],[],[]))
  (d1:call gl tab n 11 [.agg [i64 0,i64 1000,.lst true .sc []],.agg [i64 1,i64 1,.str [115],i64 0,i64 1099511627776],i64 1,.agg [i64 100,i64 110],i64 1000] []=some (.tup [nG 0 1000 g1,leAV a,i64 0],[],[]))
  (d2:call gl tab n 11 [nG 0 1000 g1,.agg [i64 1,i64 1,.str [115],i64 0,i64 1099511627776],i64 2,.agg [i64 100,i64 110],i64 500] []=some (.tup [nG 0 1000 g2,leAV b,i64 0],[],[]))
  (c9:call gl tab n 9 [nG 0 1000 g2] []=some (.tup [nG 1 1000 g2,i64 0],[],[]))
  (e1:call gl tab n 12 [nG 1 1000 g2,i64 1] []=some (.tup [i64 1100,i64 0],[],[]))
  (c13:call gl tab n 13 [nG 1 1000 g2,i64 1,.agg [i64 700,i64 710]] []=some (.tup [.lst false .sc [i64 1],i64 0],[],[]))
  (c10:call gl tab n 10 [nG 1 1000 g2,i64 1,i64 1] []=some (.tup [nG 1 1000 g3,i64 0],[],[]))
  (e2:call gl tab n 12 [nG 1 1000 g3,i64 1] []=some (.tup [i64 600,i64 0],[],[]))
  (d3:call gl tab n 11 [nG 1 1000 g3,.agg [i64 1,i64 1,.str [115],i64 0,i64 1099511627776],i64 2,.agg [i64 100,i64 110],i64 500] []=some (.tup [zG,zL,i64 4],[],[]))
  (c26:call gl tab n 26 [.lst false sY [.agg [i64 1,i64 1,.str [115],i64 0,i64 1099511627776]],.agg [i64 2,i64 0,.agg [i64 0,i64 0,i64 0,i64 0,.agg H.out16l]],leAV b] []=some (.tup [.agg [i64 2,i64 0,leAV b],i64 0],[],[]))
  (c23:call gl tab n 23 [.lst false .sc [i64 1],.lst false .sc [i64 1]] []=some (.bool true,[],[]))
  (s1:call gl tab n 32 [.agg [i64 2,i64 0,leAV b],.agg [i64 590,i64 599]] []=some (.bool true,[],[]))
  (s2:call gl tab n 32 [.agg [i64 2,i64 0,leAV b],.agg [i64 595,i64 600]] []=some (.bool false,[],[])) :
  call gl tab (n+1) 7 [] []=some (.bool true,[],[]):=by
 have q1:=H.bytes_all a.sgn
 have q2:=H.bytes_all b.sgn
 simp only[leAV,bAV,ta,tb]at d1 d2 c26 s1 s2
 rw[call_go (fd:=fd7) rfl]
 simp(maxSteps:=1000000) (implicitDefEqProofs:=false) (disch:=((fail_if_success (intro _));omega)) only[go_sem,simprocAttr,↓reduceIte,↓Nat.reduceEqDiff,xx,fd7,m7,↓out16_eq,H.out16_len,H.out16_all,H.out16_pl,c8,c25,d1,d2,c9,e1,c13,c10,e2,d3,c26,c23,s1,s2,ha,hb,q1,q2,H.noImms_bytesAV]
end Go.Proofs.S30.G
namespace Go.Proofs.S30.G
open Go Go.Ev Go.Proofs Go.Ck
open Go.Proofs.S30.H (GlK GlR)
variable {gl :Gl} {n:Nat}
theorem sanity_at [Nonempty (GlK gl)](h:20<=n):call gl tab n 7 [] []=some (.bool true,[],[]):=by
 obtain⟨d,rfl⟩:=Nat.exists_eq_add_of_le' h
 have la:=leG_ok (a:=1) (t:=0) (m:=1000) (l:=[]) (by decide) ok1.v 1100 (by decide)
 have lb:=leG_ok (a:=2) (t:=0) (m:=1000) (l:=g1) (by decide) ok2.v 600 (by decide)
 have sa:(leG kk 1 0 1100).sgn.length=16:=(leS_ok kk_v.ok la).s
 have sb:(leG kk 2 0 600).sgn.length=16:=(leS_ok kk_v.ok lb).s
 have v2:VG 0 1000 g2:=by decide
 have v3:VG 1 1000 g2:=by decide
 have v4:VG 1 1000 g3:=by decide
 have f1:findG [] 1=⟨1,0,0⟩:=rfl
 have t0:=take_at (gl:=gl) (n:=d+19) (by omega) (f:=false) (sh:=sY) (.inr rfl) kk_r ⟨2,0,⟨0,0,0,0,zB⟩⟩ rfl (leG kk 2 0 600) (leS_ok kk_v.ok lb)
 rw[take0]at t0
 have s1:=serve_at (gl:=gl) (n:=d+19) (by omega) ⟨2,0,leG kk 2 0 600⟩ sb 590 599
 have s2:=serve_at (gl:=gl) (n:=d+19) (by omega) ⟨2,0,leG kk 2 0 600⟩ sb 595 600
 rw[decide_eq_true (show MS ⟨2,0,leG kk 2 0 600⟩ 590 599 from⟨⟨by decide,by decide,by decide⟩,by decide,by decide⟩)]at s1
 rw[decide_eq_false (fun h:MS ⟨2,0,leG kk 2 0 600⟩ 595 600=>absurd h.2.2 (by decide))]at s2
 have w1:=wait_ok (gl:=gl) (n:=d+19) (e:=1) (lo:=700) (hi:=710) (f:=false) (sh:=sG) (by omega) (.inr rfl) (by decide) v3 (by decide) (by decide) (by decide)
 have c23:=sames_at (gl:=gl) (n:=d+19) (f:=false) (f':=false) (k:=.sc) (k':=.sc) (a:=[1]) (by omega) (.inr rfl) (.inr rfl) (by decide)
 have d1:=grant_new (gl:=gl) (n:=d+19) (by omega) (f:=true) (sh:=.sc) (l:=[]) (.inl rfl) (by decide) ok1 (by decide) (by decide) (by decide)
 have d2:=grant_new (gl:=gl) (n:=d+19) (by omega) (f:=false) (sh:=sG) (.inr rfl) (by decide) ok2 (by decide) (by decide) (by decide)
 have d3:=(grant_lo (gl:=gl) (n:=d+19) (by omega) (f:=false) (sh:=sG) (.inr rfl) (by decide) ok3).1 (by decide)
 have p1:putL [] ⟨1,(findG [] 1).h,(100:Int)+1000⟩=g1:=by decide
 have p2:putL g1 ⟨2,(findG g1 2).h,(100:Int)+500⟩=g2:=by decide
 have n1:(100:Int)+1000=1100:=rfl
 have n2:(100:Int)+500=600:=rfl
 rw[p1,n1]at d1
 rw[p2,n2]at d2
 have u9:=issue_ok (gl:=gl) (n:=d+19) (by omega) (f:=false) (sh:=sG) (.inr rfl) (by decide) v2 (by decide)
 have e1:=dead_ok (gl:=gl) (n:=d+19) (e:=1) (by omega) (f:=false) (sh:=sG) (.inr rfl) (by decide) v3 (by decide) (by decide)
 have e2:=dead_ok (gl:=gl) (n:=d+19) (e:=1) (by omega) (f:=false) (sh:=sG) (.inr rfl) (by decide) v4 (by decide) (by decide)
 have k0:=confirm_new (gl:=gl) (n:=d+19) (a:=1) (e:=1) (by omega) (f:=false) (sh:=sG) (.inr rfl) (by decide) v3 (by decide) (by decide) (by decide) (by decide)
 have p3:putL g2 ⟨1,1,(findG g2 1).u⟩=g3:=by decide
 rw[p3]at k0
 have x1:mxU (df 1 g2) (df 1 g2).length=1100:=by decide
 have x2:mxU (df 1 g3) (df 1 g3).length=600:=by decide
 have x3:wai 700 (df 1 g2) (df 1 g2).length=[1]:=by decide
 rw[x1]at e1
 rw[x2]at e2
 rw[x3]at w1
 have c8:=new_at (gl:=gl) (n:=d+19) (by omega) 1000
 rw[if_pos (by decide)]at c8
 have c25:=key_at (gl:=gl) (n:=d+19) (by omega)
 exact sanity_go sa sb rfl rfl c8 c25 d1 d2 u9 e1 w1 k0 e2 d3 t0 c23 s1 s2
end Go.Proofs.S30.G
namespace Go.Proofs.S30.G
open Go Go.Ev Go.Proofs Go.Ck
abbrev kI :Kd:=.int .i64
abbrev kB :Kd:=.ar 16 (.int .u8)
abbrev kPe :Kd:=.st [kI,kI]
abbrev kGt :Kd:=.st [kI,kI,kI]
abbrev kGs :Kd:=.st [kI,kI,.sl kGt]
abbrev kKy :Kd:=.st [kI,kI,.str,kI,kI]
abbrev kLe :Kd:=.st [kI,kI,kI,kI,kB]
abbrev kHe :Kd:=.st [kI,kI,kLe]
abbrev kCl :Kd:=.st [kI,kPe,kI]
theorem kGt_sh :kGt.sh=sG:=rfl
abbrev ML :Nat:=9223372036854775807
theorem ml_le {n:Nat}(h:n<=Go.maxLen):n<=ML:=by simpa[Go.maxLen]using h
theorem kd_i {a:AV}(h:HasKd kI a):∃n,a=i64 n/\R64 n:=by
 obtain⟨n,rfl,h1,h2⟩:=h
 exact⟨n,rfl,h1,h2⟩
theorem kd_str {a:AV}(h:HasKd .str a):∃l,a= .str l/\l.length<=ML:=by
 obtain⟨l,rfl,h1⟩:=h
 exact⟨l,rfl,ml_le h1⟩
theorem byte_of {a:AV}(h:HasKd (.int .u8) a):∃b:UInt8,a= .int .u8 b.toNat:=by
 obtain⟨n,rfl,h1,h2⟩:=h
 have h3:0<=n:=h1
 have h4:n<=255:=h2
 refine⟨UInt8.ofNat n.toNat,?_⟩
 congr 1
 rw[UInt8.toNat_ofNat']
 omega
theorem bytes_of :∀{l:List AV},(∀x∈l,HasKd (.int .u8) x)->∃b:List UInt8,l=bytesAV b
 | [],_=>⟨[],rfl⟩
 | x::l,h=>by
   obtain⟨a,rfl⟩:=byte_of (h x (by simp))
   obtain⟨r,rfl⟩:=bytes_of (l:=l) fun y hy=>h y (by simp[hy])
   exact⟨a::r,rfl⟩
theorem kd_B {a:AV}(h:HasKd kB a):∃b,a=bAV b/\b.length=16:=by
 obtain⟨l,rfl,h1,h2⟩:=h
 obtain⟨b,rfl⟩:=bytes_of h2
 rw[bytesAV_length]at h1
 exact⟨b,rfl,h1⟩
theorem kd_pe {a:AV}(h:HasKd kPe a):∃lo hi,a= .agg [i64 lo,i64 hi]/\R64 lo/\R64 hi:=by
 obtain⟨_,rfl,_,_,rfl,h1,_,_,rfl,h2,rfl⟩:=h
 obtain⟨x,rfl,hx⟩:=kd_i h1
 obtain⟨y,rfl,hy⟩:=kd_i h2
 exact⟨x,y,rfl,hx,hy⟩
theorem kd_gt {a:AV}(h:HasKd kGt a):∃x:Gt,a=gr x:=by
 obtain⟨_,rfl,_,_,rfl,h1,_,_,rfl,h2,_,_,rfl,h3,rfl⟩:=h
 obtain⟨x,rfl,hx⟩:=kd_i h1
 obtain⟨y,rfl,hy⟩:=kd_i h2
 obtain⟨z,rfl,hz⟩:=kd_i h3
 exact⟨⟨x,y,z⟩,rfl⟩
theorem kd_gs0 :∀{l:List AV},(∀x∈l,HasKd kGt x)->∃r:List Gt,l=gs r
 | [],_=>⟨[],rfl⟩
 | x::l,h=>by
   obtain⟨a,rfl⟩:=kd_gt (h x (by simp))
   obtain⟨r,rfl⟩:=kd_gs0 (l:=l) fun y hy=>h y (by simp[hy])
   exact⟨a::r,rfl⟩
theorem kd_gs {a:AV}(h:HasKd kGs a):∃t m l,a=gAV t m false sG l/\R64 t/\R64 m/\l.length<=ML:=by
 obtain⟨_,rfl,_,_,rfl,h1,_,_,rfl,h2,_,_,rfl,h3,rfl⟩:=h
 obtain⟨t,rfl,ht⟩:=kd_i h1
 obtain⟨m,rfl,hm⟩:=kd_i h2
 obtain⟨l,rfl,h0,h⟩:=h3
 obtain⟨r,rfl⟩:=kd_gs0 h
 rw[gs_length]at h0
 exact⟨t,m,r,rfl,ht,hm,ml_le h0⟩
theorem kd_ky {a:AV}(h:HasKd kKy a):∃x:Ky,a=ky x/\R64 x.p/\R64 x.s/\x.k.length<=ML:=by
 obtain⟨_,rfl,_,_,rfl,h1,_,_,rfl,h2,_,_,rfl,h3,_,_,rfl,h4,_,_,rfl,h5,rfl⟩:=h
 obtain⟨p,rfl,hp⟩:=kd_i h1
 obtain⟨s,rfl,hs⟩:=kd_i h2
 obtain⟨k,rfl,hk⟩:=kd_str h3
 obtain⟨f,rfl,hf⟩:=kd_i h4
 obtain⟨t,rfl,ht⟩:=kd_i h5
 exact⟨⟨p,s,k,f,t⟩,rfl,hp,hs,hk⟩
theorem kd_le {a:AV}(h:HasKd kLe a):∃x:Le,a=leAV x/\LeOk x:=by
 obtain⟨_,rfl,_,_,rfl,h1,_,_,rfl,h2,_,_,rfl,h3,_,_,rfl,h4,_,_,rfl,h5,rfl⟩:=h
 obtain⟨p,rfl,hp⟩:=kd_i h1
 obtain⟨s,rfl,hs⟩:=kd_i h2
 obtain⟨k,rfl,hk⟩:=kd_i h3
 obtain⟨f,rfl,hf⟩:=kd_i h4
 obtain⟨t,rfl,ht⟩:=kd_B h5
 exact⟨⟨p,s,k,f,t⟩,rfl,⟨few_mk hp (few_mk hs (few_mk hk (few_mk hf few_nil (by simp)) (by simp)) (by simp)) (by simp),ht⟩⟩
theorem kd_he {a:AV}(h:HasKd kHe a):∃x:Hd,a=hAV x/\LeOk x.le:=by
 obtain⟨_,rfl,_,_,rfl,h1,_,_,rfl,h2,_,_,rfl,h3,rfl⟩:=h
 obtain⟨s,rfl,hs⟩:=kd_i h1
 obtain⟨e,rfl,he⟩:=kd_i h2
 obtain⟨l,rfl,hl⟩:=kd_le h3
 exact⟨⟨s,e,l⟩,rfl,hl⟩
theorem kd_cl {a:AV}(h:HasKd kCl a):∃c:Cl,a=cAV c:=by
 obtain⟨_,rfl,_,_,rfl,h1,_,_,rfl,h2,_,_,rfl,h3,rfl⟩:=h
 obtain⟨s,rfl,hs⟩:=kd_i h1
 obtain⟨lo,hi,rfl,hlo,hhi⟩:=kd_pe h2
 obtain⟨l,rfl,hl⟩:=kd_i h3
 exact⟨⟨s,lo,hi,l⟩,rfl⟩
end Go.Proofs.S30.G
