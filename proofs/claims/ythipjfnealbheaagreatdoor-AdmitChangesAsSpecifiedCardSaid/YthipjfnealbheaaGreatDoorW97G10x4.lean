/-
  Chapter 8: sketches; halves. No condition.
-/
import Derived.Test.YthipjfnealbheaaGreatDoorW97
import Derived.Test.YthipjfnealbheaaGreatDoorEvY
import Derived.Test.YthipjfnealbheaaGreatDoorW97G9x4
set_option linter.all false
open Nat renaming exists_eq_add_of_le'->wB,pow_le_pow_right->wC,div_add_mod->wD,mod_eq_of_lt->wE,pow_succ->wF
open List renaming cons_append->wG,nil_append->wH
open BitVec renaming ofInt_natCast->wJ,toNat_ofNat->wK
namespace Go.Proofs.S97.K
open Go Go.Ev Go.Proofs
variable {gl :Gl} {n:Nat}
abbrev i64 (n:Int):AV:=.int .i64 n
def ns (l:List Int):List AV:=l.map i64
def nat (l:List Int)(i:Nat):Int:=l.getD i 0
theorem ns_length (l:List Int):(ns l).length=l.length:=by simp[ns]
theorem ns_at {l:List Int}{i:Nat}(h:i<l.length):(ns l)[i]? =some (i64 (nat l i)):=by simp[ns,nat,h]
theorem qgm (x:Int):ns [x]=[i64 x]:=rfl
theorem ns_app (l:List Int)(s:Int):ns (l++[s])=ns l++[i64 s]:=by simp[ns]
theorem ns_take (l:List Int)(v:AV):(ns l++[v]).take (l.length+1)=ns l++[v]:=by rw[<-ns_length];exact List.take_of_length_le (by simp)
theorem ns_take' (l:List Int):(ns l).take l.length=ns l:=by rw[<-ns_length];exact List.take_length
def hlf (l:List Int):Nat->List Int
 | 0=>[]
 | i+1=>hlf l i++[nat l i/2]
theorem zci (l:List Int):∀i,(hlf l i).length=i
 | 0=>rfl
 | i+1=>by rw[hlf,List.length_append,zci l i];rfl
theorem quo2 {x:Int}(h:0<=x):Int.tdiv x 2=x/2:=Int.tdiv_eq_ediv_of_nonneg h
def L22 :MC:=match m72 with| .seq _ (.seq _ (.seq (.seq _ (.block _ (.loop _ b))) _))=>b|_=>.skip
abbrev sK :Sh:=.st [.sc,.sc,.sc,.sc]
def S22 (w s a:Int)(x:AV)(hp:Hp)(l:List Int):Nat->St
 | 0=>⟨[.set 4 (i64 0),.set 3 (.ptr 3 []),.set 2 (.ptr 2 []),.set 1 (.ptr 1 [])],
   hp++[(3,.fix sK (.agg [i64 w,i64 s,i64 (a/2),.lst true .sc []])),(2,.fix sK (.agg [i64 0,i64 0,i64 0,.lst true .sc []])),(1,.fix sK x)]⟩
 | i+1=>⟨[.set 4 (i64 (i+1:Nat)),.set 3 (.ptr 3 []),.set 2 (.ptr 2 []),.set 1 (.ptr 1 [])],
   hp++[(6033,.grow .sc (ns (hlf l (i+1)))),(3,.fix sK (.aggR [i64 w,i64 s,i64 (a/2),.sl 6033 [] 0 (i+1)])),(2,.fix sK (.agg [i64 0,i64 0,i64 0,.lst true .sc []])),(1,.fix sK x)]⟩
def hv (w s a:Int)(N:Nat):AV:=.aggR [i64 w,i64 s,i64 (a/2),.sl 20000 [] 0 N]
theorem zw7 (h:1<=n){w s a:Int}{l:List Int}(ha:0<=a/\a<=2097152)(h0:0<l.length)(hl:l.length<2^20)(hc:∀i,i<l.length->0<=nat l i/\nat l i<=15) :
  call gl tab n 72 [.aggR [i64 w,i64 s,i64 a,.sl 100000 [] 0 l.length]] [(100000,.grow .sc (ns l))]=some (hv w s a l.length,[(100000,.grow .sc (ns l))],[.grow .sc (ns (hlf l l.length))]):=by
 obtain⟨d,rfl⟩:=wB h
 have q2:=quo2 ha.1
 have hs:∀i,i<l.length->zba [.slot 1,.slot 2,.slot 3,.slot 4,.key 1,.key 2,.key 3,.mv 3 [3] 6033] (evC gl (call gl tab d) L22 (S22 w s a (.aggR [i64 w,i64 s,i64 a,.sl 100000 [] 0 l.length]) [(100000,.grow .sc (ns l))] l i))=some (S22 w s a (.aggR [i64 w,i64 s,i64 a,.sl 100000 [] 0 l.length]) [(100000,.grow .sc (ns l))] l (i+1)):=fun i hi=>by
  have hx:=ns_at hi
  have q3:=quo2 (hc i hi).1
  have q4:0<=nat l i/2/\nat l i/2<=15:=by have:=hc i hi;omega
  have hli:i+1<=LIM:=by unfold LIM;omega
  have htk:=ns_take (hlf l i) (i64 (nat l i/2))
  rw[zci]at htk
  cases i with
  | zero=>simp(disch:=apply zq;omega) only[go_sem,simprocAttr,↓Nat.reduceEqDiff,xx,L22,m72,S22,ns_length,hx,hlf,zam,q3,hli,qgm,wH,wG]
  | succ i=>simp(disch:=apply zq;omega) only[go_sem,simprocAttr,↓Nat.reduceEqDiff,xx,L22,m72,S22,ns_length,hx,zam,q3,hli,zci,show hlf l (i+1+1)=hlf l (i+1)++[nat l (i+1)/2]from rfl,ns_app,htk,wH,wG]
 rw[za5 (fd:=fd72) rfl]
 simp(disch:=apply zq;omega) only[go_sem,simprocAttr,↓Nat.reduceEqDiff,xx,fd72,m72,ns_length,zam,q2]
 rw[zaj (S22 w s a (.aggR [i64 w,i64 s,i64 a,.sl 100000 [] 0 l.length]) [(100000,.grow .sc (ns l))] l) l.length (by unfold LF;omega)]
 . cases l with
   | nil=>simp at h0
   | cons x l =>
     have htk:=ns_take' (hlf (x::l) (l.length+1))
     rw[zci]at htk
     simp(disch:=apply zq;omega) only[go_sem,simprocAttr,↓Nat.reduceEqDiff,xx,S22,ns_length,zci,htk,hv,wH,wG]
 . simp(disch:=apply zq;omega) only[go_sem,simprocAttr,↓Nat.reduceEqDiff,xx,S22,ns_length,hlf,wH,wG]
 . simp only[L22,m72]at hs;exact hs
 . cases l with|nil=>simp(disch:=apply zq;omega) only[go_sem,simprocAttr,↓Nat.reduceEqDiff,xx,S22,ns_length,wH,wG]|cons x l=>simp(disch:=apply zq;omega) only[go_sem,simprocAttr,↓Nat.reduceEqDiff,xx,S22,ns_length,wH,wG]
end Go.Proofs.S97.K
namespace Go.Proofs.S97.K
open Go Go.Ev Go.Proofs
variable {gl :Gl} {n:Nat}
def L13 :MC:=match m33 with| .seq _ (.seq _ (.seq (.seq _ (.block _ (.loop _ b))) _))=>b|_=>.skip
def S13 (w s a:Int)(f f':Bool)(l:List Int)(i:Nat):St :=
 ⟨[.set 5 (i64 i),.set 3 (.ptr 3 []),.set 2 (.ptr 2 [])],[(3,.fix sK (.agg [i64 w,i64 s,i64 a,.lst f' .sc (ns l)])),(2,.fix sK (.agg [i64 w,i64 s,i64 a,.lst f .sc (ns l)]))]⟩
theorem same_at (h:1<=n){f f':Bool}{w s a:Int}{l:List Int}(hl:l.length<2^20) :
  call gl tab n 33 [.agg [i64 w,i64 s,i64 a,.lst f .sc (ns l)],.agg [i64 w,i64 s,i64 a,.lst f' .sc (ns l)]] []=some (.bool true,[],[]):=by
 obtain⟨d,rfl⟩:=wB h
 have hs:∀i,i<l.length->zba [.slot 2,.slot 3,.slot 5,.key 2,.key 3] (evC gl (call gl tab d) L13 (S13 w s a f f' l i))=some (S13 w s a f f' l (i+1)):=fun i hi=>by
  have hx:=ns_at hi
  simp(disch:=apply zq;omega) only[go_sem,simprocAttr,↓Nat.reduceEqDiff,xx,L13,m33,S13,ns_length,hx]
 simp only[L13,m33]at hs
 rw[zaf (fd:=fd33) rfl]
 simp(disch:=apply zq;omega) only[go_sem,simprocAttr,↓Nat.reduceEqDiff,xx,fd33,m33,ns_length]
 rw[zaj (S13 w s a f f' l) l.length (by unfold LF;omega)]
 . simp(disch:=apply zq;omega) only[go_sem,simprocAttr,↓Nat.reduceEqDiff,xx,S13,ns_length]
 . simp(disch:=apply zq;omega) only[go_sem,simprocAttr,↓Nat.reduceEqDiff,xx,S13,ns_length]
 . exact hs
 . simp(disch:=apply zq;omega) only[go_sem,simprocAttr,↓Nat.reduceEqDiff,xx,S13,ns_length]
def fil (l:List Int):Nat->Int
 | 0=>0
 | i+1=>fil l i+if nat l i=0 then 0 else 1
def S27 (w s a:Int)(f:Bool)(l:List Int)(i:Nat):St:=⟨[.set 4 (i64 i),.set 3 (i64 (fil l i)),.set 1 (.ptr 1 [])],[(1,.fix sK (.agg [i64 w,i64 s,i64 a,.lst f .sc (ns l)]))]⟩
end Go.Proofs.S97.K
namespace Go.Proofs.S97.K
open Go Go.Ev Go.Proofs
variable {gl :Gl} {n:Nat}
def dgB (key:List UInt8)(r i:Nat):Nat:=((H.dig (H.inp (80+(r:Int)) [key])).getD i 0).toNat
def plc (key:List UInt8)(r:Nat):Nat:=dgB key r 0*16777216+dgB key r 1*65536+dgB key r 2*256+dgB key r 3
theorem zmn (key:List UInt8)(r i:Nat):dgB key r i<256:=UInt8.toNat_lt _
theorem zzt {key:List UInt8}(h:key.length<=5000):H.Sml [key]:=⟨by simp,fun x hx=>by rw[List.mem_singleton]at hx;subst hx;omega⟩
theorem shl8 (a:Nat)(h:a<2^50):zb1 .shl .i64 (a:Int) 8=some (.int .i64 ((a*256:Nat):Int)):=by
 show(if(8:Int)<0 then none else some (AV.int .i64 (IntKind.wrap .i64 ((a:Int)*2^(min (8:Int).toNat IntKind.i64.bits)))))=_
 rw[if_neg (by omega),show min (8:Int).toNat IntKind.i64.bits=8 from rfl,zaw (by omega) (by omega)]
 congr 2
theorem or8 (a b:Nat)(h:a<2^50)(hb:b<256):zam .or .i64 ((a*256:Nat):Int) (b:Int)=some (.int .i64 ((a*256+b:Nat):Int)):=by
 rw[qgd,wJ,wJ]
 have e:(BitVec.ofNat 64 (a*256)|||BitVec.ofNat 64 b).toNat=a*256+b:=by
  rw[BitVec.toNat_or,wK,wK,wE (by omega),wE (by omega)]
  have:=Nat.shiftLeft_add_eq_or_of_lt (i:=8) (show b<2^8 by omega) a
  rw[Nat.shiftLeft_eq]at this
  exact this.symm
 rw[BitVec.toInt_eq_toNat_of_lt (by rw[e];omega),e]
def acc (key:List UInt8)(r:Nat):Nat->Nat
 | 0=>0
 | i+1=>acc key r i*256+dgB key r i
theorem z9u (key:List UInt8)(r:Nat):∀i,acc key r i<256^i
 | 0=>by rw[acc];omega
 | i+1=>by
   have h1:=z9u key r i
   have h2:=zmn key r i
   rw[acc,wF];omega
theorem qlk (key:List UInt8)(r:Nat):acc key r 4=plc key r:=by simp only[acc,plc];omega
theorem z3p (key:List UInt8)(r i:Nat)(h:i<16):(zac (H.dig (H.inp (80+(r:Int)) [key])))[i]? =some (.int .u8 (dgB key r i:Int)):=by
 rw[H.bytesAV_getD (by rw[H.dig_len];exact h)];rfl
theorem zqo [Nonempty (H.GlR gl)](h:8<=n){key:List UInt8}(hk:key.length<=5000){r w:Nat}(hr:r<4)(hw:1<=w/\w<=4096):call gl tab n 71 [.str key,i64 r,i64 w] []=some (i64 ((plc key r%w:Nat):Int),[],[]):=by
 obtain⟨d,rfl⟩:=wB h
 have c:call gl tab (d+7) 94 [.int .i64 (80+(r:Int)),.lst false .sc [.str key]] []=some (.agg (zac (H.dig (H.inp (80+(r:Int)) [key]))),[],[]):=H.rof_at (gl:=gl) (n:=d+5) (by omega) (80+(r:Int)) false [key] (zzt hk)
 have g0:=z3p key r 0 (by omega)
 have g1:=z3p key r 1 (by omega)
 have g2:=z3p key r 2 (by omega)
 have g3:=z3p key r 3 (by omega)
 have b0:=zmn key r 0
 have b1:=zmn key r 1
 have b2:=zmn key r 2
 have b3:=zmn key r 3
 have hl:=H.dig_len (H.inp (80+(r:Int)) [key])
 have hr2:=H.rem_nat (plc key r) w (by omega)
 unfold plc at hr2 ⊢
 simp only[Int.natCast_add,Int.natCast_mul,Int.cast_ofNat_Int]at hr2
 generalize H.dig (H.inp (80+(r:Int)) [key])=D at *
 generalize dgB key r 0=x0 at *
 generalize dgB key r 1=x1 at *
 generalize dgB key r 2=x2 at *
 generalize dgB key r 3=x3 at *
 rw[zaf (fd:=fd71) rfl]
 simp(disch:=apply zq;omega) only[go_sem,simprocAttr,↓Nat.reduceEqDiff,xx,fd71,m71,c,g0,g1,g2,g3,zae,hl,H.bytes_all,hr2,H.noImms_bytesAV]
def L28 :MC:=match m90 with| .seq _ (.seq _ (.seq _ (.seq (.seq _ (.block _ (.loop _ b))) _)))=>b|_=>.skip
def S28 (D:List UInt8)(w a:Nat)(i:Nat):St:=⟨[.set 18 (i64 i),.set 17 (i64 4),.set 16 (.sl 8 [] 0 4),.set 7 (i64 a),.set 2 (i64 w)],[(8,.fix (.ar 16 .sc) (.agg (zac D)))]⟩
theorem place_at [Nonempty (H.GlK gl)](h:8<=n){key:List UInt8}(hk:key.length<=5000){r w:Nat}(hr:r<4)(hw:1<=w/\w<=4096):call gl tab n 90 [.str key,i64 r,i64 w] []=some (i64 ((plc key r%w:Nat):Int),[],[]):=by
 obtain⟨d,rfl⟩:=wB h
 have c:call gl tab (d+7) 106 [.int .i64 (80+(r:Int)),.lst false .sc [.str key]] []=some (.agg (zac (H.dig (H.inp (80+(r:Int)) [key]))),[],[]):=H.of_at (gl:=gl) (n:=d+6) (by omega) (80+(r:Int)) false [key] (zzt hk)
 have hl:=H.dig_len (H.inp (80+(r:Int)) [key])
 have hr2:=H.rem_nat (plc key r) w (by omega)
 have hg:=fun i hi=>z3p key r i hi
 have ha:=z9u key r
 rw[<-qlk]at hr2 ⊢
 generalize H.dig (H.inp (80+(r:Int)) [key])=D at *
 have hs:∀i,i<4->zba [.slot 2,.slot 7,.slot 16,.slot 17,.slot 18,.key 8] (evC gl (call gl tab (d+7)) L28 (S28 D w (acc key r i) i))=some (S28 D w (acc key r (i+1)) (i+1)):=fun i hi=>by
  have hx:=hg i (by omega)
  have h1:acc key r i<2^50:=Nat.lt_of_lt_of_le (ha i) (Nat.le_trans (wC (by omega) (show i<=3 by omega)) (by decide))
  have h2:=shl8 _ h1
  have h3:=or8 _ _ h1 (zmn key r i)
  have hb:=zmn key r i
  rw[acc]
  generalize acc key r i=a at *
  generalize dgB key r i=x at *
  simp(disch:=apply zq;omega) only[go_sem,simprocAttr,↓Nat.reduceEqDiff,xx,L28,m90,S28,hx,h2,h3,zae,hl]
 simp only[L28,m90]at hs
 rw[zaf (fd:=fd90) rfl]
 simp(disch:=apply zq;omega) only[go_sem,simprocAttr,↓Nat.reduceEqDiff,xx,fd90,m90,c,zae,hl,H.bytes_all,H.noImms_bytesAV]
 rw[zaj (fun i=>S28 D w (acc key r i) i) 4 (by unfold LF;omega)]
 . simp(disch:=apply zq;omega) only[go_sem,simprocAttr,↓Nat.reduceEqDiff,xx,S28,hr2]
 . simp(disch:=apply zq;omega) only[go_sem,simprocAttr,↓Nat.reduceEqDiff,xx,S28,acc]
 . exact hs
 . simp(disch:=apply zq;omega) only[go_sem,simprocAttr,↓Nat.reduceEqDiff,xx,S28]
end Go.Proofs.S97.K
namespace Go.Proofs.S97.K
open Go Go.Ev Go.Proofs
section
variable {gl :Gl} {n:Nat}
def pw (i:Nat):Int:=if i<63 then 2^i else -9223372036854775808
theorem zs9 {i:Nat}(h:i<63):pw i=((2^i:Nat):Int):=by rw[pw,if_pos h];simp
theorem zxb {i:Nat}(h:i<63):1<=pw i/\pw i<=4611686018427387904:=by
 rw[zs9 h]
 have h1:2^i<=2^62:=wC (by omega) (by omega)
 have h2:0<2^i:=Nat.pow_pos (by omega)
 have h3:(2:Nat)^62=4611686018427387904:=by decide
 omega
theorem qf5 {i:Nat}(h:i<63):IntKind.wrap .i64 (pw i*2)=pw (i+1):=by
 by_cases h2:i+1<63
 . have h3:=zxb h2
   have h4:pw i*2=pw (i+1):=by rw[zs9 h,zs9 h2,wF];omega
   rw[h4,zaw (by omega) (by omega)]
 . obtain rfl:i=62:=by omega
   decide
theorem qbu {i j:Nat}(hij:i<=j)(hj:j<63):pw i<=pw j:=by
 rw[zs9 (by omega),zs9 hj]
 have:2^i<=2^j:=wC (by omega) hij
 omega
def isP (w:Int):Prop:=∃i,i<63/\w=pw i
def L30 :MC:=match m50 with| .seq _ (.seq (.seq _ (.block _ (.loop _ b))) _)=>b|_=>.skip
def S30 (w:Int)(i:Nat):St:=⟨[.set 3 (i64 (pw i)),.set 0 (i64 w)],[]⟩
theorem rpower_at (h:1<=n)(w:Int):∃b:Bool,(b=true↔isP w)/\call gl tab n 50 [i64 w] []=some (.bool b,[],[]):=by
 obtain⟨d,rfl⟩:=wB h
 have h63:pw 63=-9223372036854775808:=by decide
 obtain⟨k,hk,hb,he,hit⟩:=z1u (f:=evC gl (call gl tab d) L30) (ks:=[.slot 0,.slot 3]) (S30 w) 63 (fun i=>pw i<=w/\pw i≠w) (by unfold LF;omega)
  (fun i hi _ ⟨h1,h2⟩=>by
    have hp:=zxb hi
    have hm:=qf5 hi
    have h3:(pw i==w)=false:=by rw[beq_eq_false_iff_ne];exact h2
    rw[S30,S30,<-hm]
    generalize pw i=x at *
    simp(disch:=apply zq;omega) only[go_sem,simprocAttr,↓Nat.reduceEqDiff,xx,L30,m50,h3])
  (fun i hi _ h1=>by
    have hp:=zxb hi
    rw[S30]
    generalize pw i=x at *
    by_cases h2:x<=w
    . have h3:x=w:=Classical.byContradiction fun h3=>h1 ⟨h2,h3⟩
      subst h3
      simp(disch:=apply zq;omega) only[go_sem,simprocAttr,↓Nat.reduceEqDiff,xx,L30,m50,beq_self_eq_true]
    . simp(disch:=apply zq;omega) only[go_sem,simprocAttr,↓Nat.reduceEqDiff,xx,L30,m50])
  (fun _=>by
    rw[S30,h63]
    simp(disch:=apply zq;omega) only[go_sem,simprocAttr,↓Nat.reduceEqDiff,xx,L30,m50])
 simp only[L30,m50]at hit
 have h0:pw 0=1:=by decide
 by_cases hk2:k<63
 . have hp:=zxb hk2
   by_cases h2:pw k=w
   . refine⟨true,⟨fun _=>⟨k,hk2,h2.symm⟩,fun _=>rfl⟩,?_⟩
     rw[zaf (fd:=fd50) rfl]
     simp(disch:=apply zq;omega) only[go_sem,simprocAttr,↓Nat.reduceEqDiff,xx,fd50,m50]
     rw[hit _ (by rw[S30,h0];simp(disch:=apply zq;omega) only[go_sem,simprocAttr,↓Nat.reduceEqDiff,xx])]
     rw[S30,h2]
     rw[h2]at hp
     simp(disch:=apply zq;omega) only[go_sem,simprocAttr,↓Nat.reduceEqDiff,xx,beq_self_eq_true]
   . have h3:w<pw k:=by
      have:=he hk2
      refine Int.not_le.1 fun h4=>this ⟨h4,h2⟩
     refine⟨false,⟨(fun h=>by cases h),fun⟨i,hi,e⟩=> ?_⟩,?_⟩
     . exfalso
       by_cases h4:i<k
       . exact(hb i h4).2 e.symm
       . have:=qbu (show k<=i by omega) hi;omega
     . rw[zaf (fd:=fd50) rfl]
       simp(disch:=apply zq;omega) only[go_sem,simprocAttr,↓Nat.reduceEqDiff,xx,fd50,m50]
       rw[hit _ (by rw[S30,h0];simp(disch:=apply zq;omega) only[go_sem,simprocAttr,↓Nat.reduceEqDiff,xx])]
       rw[S30]
       generalize pw k=x at *
       simp(disch:=apply zq;omega) only[go_sem,simprocAttr,↓Nat.reduceEqDiff,xx]
 . obtain rfl:k=63:=by omega
   refine⟨false,⟨(fun h=>by cases h),fun⟨i,hi,e⟩=>absurd e.symm (hb i hi).2⟩,?_⟩
   rw[zaf (fd:=fd50) rfl]
   simp(disch:=apply zq;omega) only[go_sem,simprocAttr,↓Nat.reduceEqDiff,xx,fd50,m50]
   rw[hit _ (by rw[S30,h0];simp(disch:=apply zq;omega) only[go_sem,simprocAttr,↓Nat.reduceEqDiff,xx])]
   rw[S30,h63]
   simp(disch:=apply zq;omega) only[go_sem,simprocAttr,↓Nat.reduceEqDiff,xx]
end
end Go.Proofs.S97.K
namespace Go.Proofs.S97.K
open Go Go.Ev Go.Proofs
theorem zl6 (a b c d:Nat)(hb:b<256)(hd:d<256):(256*a+b)&&&(256*c+d)=256*(a&&&c)+(b&&&d):=by
 have e1:((256*a+b)&&&(256*c+d))/256=a&&&c:=by
  have:=Nat.shiftRight_and_distrib (a:=256*a+b) (b:=256*c+d) (i:=8)
  simp only[Nat.shiftRight_eq_div_pow]at this
  rw[show(2:Nat)^8=256 from rfl]at this
  rw[this];congr 1<;>omega
 have e2:((256*a+b)&&&(256*c+d))%256=b&&&d:=by
  have:=Nat.and_mod_two_pow (a:=256*a+b) (b:=256*c+d) (n:=8)
  rw[show(2:Nat)^8=256 from rfl]at this
  rw[this];congr 1<;>omega
 rw[<-e1,<-e2];exact(wD _ 256).symm
def mk (m:Nat):Nat->Nat
 | 0=>0
 | k+1=>256*mk m k+m
def y1 (b:Nat):Nat:=((b/2)&&&85)+(b&&&85)
def y2 (b:Nat):Nat:=((b/4)&&&51)+(b&&&51)
def y3 (b:Nat):Nat:=(b/16+b)&&&15
def X1 (k x:Nat):Nat:=((x/2)&&&mk 85 k)+(x&&&mk 85 k)
def X2 (k x:Nat):Nat:=((x/4)&&&mk 51 k)+(x&&&mk 51 k)
def X3 (k x:Nat):Nat:=(x/16+x)&&&mk 15 k
theorem d1 :∀t:Fin 2,∀y:Fin 128,(128*t.val+y.val)&&&85=y.val&&&85:=by decide +kernel
theorem d2 :∀t:Fin 4,∀y:Fin 64,(64*t.val+y.val)&&&51=y.val&&&51:=by decide +kernel
theorem d3 :∀y:Fin 256,y.val&&&15=y.val%16:=by decide +kernel
theorem dy :∀b:Fin 256,y1 b.val<256/\y2 (y1 b.val)<256/\y2 (y1 b.val)/16<=4/\y2 (y1 b.val)%16<=4/\y3 (y2 (y1 b.val))<=8:=by decide +kernel
theorem X1_s (k a b:Nat)(hb:b<256):X1 (k+1) (256*a+b)=256*X1 k a+y1 b:=by
 unfold X1 y1
 have e:(256*a+b)/2=256*(a/2)+(128*(a%2)+b/2):=by omega
 have h1:=d1 ⟨a%2,by omega⟩ ⟨b/2,by omega⟩
 simp only at h1
 rw[e,mk,zl6 _ _ _ _ (by omega) (by omega),zl6 _ _ _ _ hb (by omega),h1];omega
theorem X2_s (k a b:Nat)(hb:b<256):X2 (k+1) (256*a+b)=256*X2 k a+y2 b:=by
 unfold X2 y2
 have e:(256*a+b)/4=256*(a/4)+(64*(a%4)+b/4):=by omega
 have h1:=d2 ⟨a%4,by omega⟩ ⟨b/4,by omega⟩
 simp only at h1
 rw[e,mk,zl6 _ _ _ _ (by omega) (by omega),zl6 _ _ _ _ hb (by omega),h1];omega
theorem X3_s (k a b:Nat)(hb:b/16<=4/\b%16<=4)(ha:a%16<=4):X3 (k+1) (256*a+b)=256*X3 k a+y3 b:=by
 unfold X3 y3
 have e:(256*a+b)/16+(256*a+b)=256*(a/16+a)+(16*(a%16)+b/16+b):=by omega
 have h1:=d3 ⟨16*(a%16)+b/16+b,by omega⟩
 have h2:=d3 ⟨b/16+b,by omega⟩
 simp only at h1 h2
 rw[e,mk,zl6 _ _ _ _ (by omega) (by omega),h1,h2];omega
def pcb (b:Nat):Nat:=y3 (y2 (y1 b))
def Z (k x:Nat):Nat:=X3 k (X2 k (X1 k x))
theorem qi7 (k x:Nat):X2 k (X1 k x)%16<=4:=by
 cases k with
 | zero=>simp[X2,mk]
 | succ k =>
   have e:x=256*(x/256)+x%256:=(wD x 256).symm
   have h:=dy ⟨x%256,by omega⟩
   simp only at h
   rw[e,X1_s _ _ _ (by omega),X2_s _ _ _ h.1];omega
theorem Z_s (k a b:Nat)(hb:b<256):Z (k+1) (256*a+b)=256*Z k a+pcb b:=by
 have h:=dy ⟨b,hb⟩
 simp only at h
 unfold Z pcb
 rw[X1_s _ _ _ hb,X2_s _ _ _ h.1,X3_s _ _ _ ⟨h.2.2.1,h.2.2.2.1⟩ (qi7 k a)]
theorem Z_0 (x:Nat):Z 0 x=0:=by simp[Z,X3,mk]
theorem zj9 (b:Nat)(h:b<256):pcb b<=8:=(dy ⟨b,h⟩).2.2.2.2
theorem Z_8 {x:Nat}(hx:x<2^64):∃b0 b1 b2 b3 b4 b5 b6 b7:Nat,b0<256/\b1<256/\b2<256/\b3<256/\b4<256/\b5<256/\b6<256/\b7<256 /\
  x=256*(256*(256*(256*(256*(256*(256*b7+b6)+b5)+b4)+b3)+b2)+b1)+b0 /\
  Z 8 x=256*(256*(256*(256*(256*(256*(256*pcb b7+pcb b6)+pcb b5)+pcb b4)+pcb b3)+pcb b2)+pcb b1)+pcb b0:=by
 refine⟨x%256,x/256%256,x/256/256%256,x/256/256/256%256,x/256/256/256/256%256,x/256/256/256/256/256%256,x/256/256/256/256/256/256%256,x/256/256/256/256/256/256/256%256,by omega,by omega,by omega,by omega,by omega,by omega,by omega,by omega,by omega,?_⟩
 have s:∀k y,Z (k+1) y=256*Z k (y/256)+pcb (y%256):=fun k y=>by
  have:=Z_s k (y/256) (y%256) (by omega)
  rwa [wD]at this
 rw[s,s,s,s,s,s,s,s,Z_0]
 simp only[Nat.mul_zero,Nat.zero_add]
end Go.Proofs.S97.K
