/-
  Chapter 8: where a key is counted. No condition.
-/
import Derived.Test.YthipjfnealbheaaGreatDoorW97G9x3
set_option linter.all false
open BitVec renaming toNat_and->wB,toNat_ushiftRight->wC,toNat_ofNat->wD,toNat_add->wE,ofInt_natCast->wF
open Nat renaming add_le_add->wG,shiftRight_eq_div_pow->wH,exists_eq_add_of_le'->wJ,mod_eq_of_lt->wK,and_le_right->wL,le_trans->wM,pow_le_pow_right->wN,div_add_mod->wO,pow_succ->wP,pow_pos->wQ
namespace Go.Proofs.S97.K
open Go Go.Ev Go.Proofs
variable {gl :Gl} {n:Nat}
def dgB (key:List UInt8)(r i:Nat):Nat:=((H.dig (H.inp (80+(r:Int)) [key])).getD i 0).toNat
def plc (key:List UInt8)(r:Nat):Nat:=dgB key r 0*16777216+dgB key r 1*65536+dgB key r 2*256+dgB key r 3
theorem zm2 (key:List UInt8)(r i:Nat):dgB key r i<256:=UInt8.toNat_lt _
theorem z0g {key:List UInt8}(h:key.length<=5000):H.Sml [key]:=⟨by simp,fun x hx=>by rw[List.mem_singleton]at hx;subst hx;omega⟩
theorem shl8 (a:Nat)(h:a<2^50):zb3 .shl .i64 (a:Int) 8=some (.int .i64 ((a*256:Nat):Int)):=by
 show(if(8:Int)<0 then none else some (AV.int .i64 (IntKind.wrap .i64 ((a:Int)*2^(min (8:Int).toNat IntKind.i64.bits)))))=_
 rw[if_neg (by omega),show min (8:Int).toNat IntKind.i64.bits=8 from rfl,zay (by omega) (by omega)]
 congr 2
theorem or8 (a b:Nat)(h:a<2^50)(hb:b<256):zam .or .i64 ((a*256:Nat):Int) (b:Int)=some (.int .i64 ((a*256+b:Nat):Int)):=by
 rw[qg6,wF,wF]
 have e:(BitVec.ofNat 64 (a*256)|||BitVec.ofNat 64 b).toNat=a*256+b:=by
  rw[BitVec.toNat_or,wD,wD,wK (by omega),wK (by omega)]
  have:=Nat.shiftLeft_add_eq_or_of_lt (i:=8) (show b<2^8 by omega) a
  rw[Nat.shiftLeft_eq]at this
  exact this.symm
 rw[BitVec.toInt_eq_toNat_of_lt (by rw[e];omega),e]
def acc (key:List UInt8)(r:Nat):Nat->Nat
 | 0=>0
 | i+1=>acc key r i*256+dgB key r i
theorem qap (key:List UInt8)(r:Nat):∀i,acc key r i<256^i
 | 0=>by rw[acc];omega
 | i+1=>by
   have h1:=qap key r i
   have h2:=zm2 key r i
   rw[acc,wP];omega
theorem qmr (key:List UInt8)(r:Nat):acc key r 4=plc key r:=by simp only[acc,plc];omega
theorem z4a (key:List UInt8)(r i:Nat)(h:i<16):(zad (H.dig (H.inp (80+(r:Int)) [key])))[i]? =some (.int .u8 (dgB key r i:Int)):=by
 rw[H.bytesAV_getD (by rw[H.dig_len];exact h)];rfl
theorem rplace_at [Nonempty (H.GlR gl)](h:8<=n){key:List UInt8}(hk:key.length<=5000){r w:Nat}(hr:r<4)(hw:1<=w/\w<=4096):call gl tab n 71 [.str key,i64 r,i64 w] []=some (i64 ((plc key r%w:Nat):Int),[],[]):=by
 obtain⟨d,rfl⟩:=wJ h
 have c:call gl tab (d+7) 94 [.int .i64 (80+(r:Int)),.lst false .sc [.str key]] []=some (.agg (zad (H.dig (H.inp (80+(r:Int)) [key]))),[],[]):=H.rof_at (gl:=gl) (n:=d+5) (by omega) (80+(r:Int)) false [key] (z0g hk)
 have g0:=z4a key r 0 (by omega)
 have g1:=z4a key r 1 (by omega)
 have g2:=z4a key r 2 (by omega)
 have g3:=z4a key r 3 (by omega)
 have b0:=zm2 key r 0
 have b1:=zm2 key r 1
 have b2:=zm2 key r 2
 have b3:=zm2 key r 3
 have hl:=H.dig_len (H.inp (80+(r:Int)) [key])
 have hr2:=H.rem_nat (plc key r) w (by omega)
 unfold plc at hr2 ⊢
 simp only[Int.natCast_add,Int.natCast_mul,Int.cast_ofNat_Int]at hr2
 generalize H.dig (H.inp (80+(r:Int)) [key])=D at *
 generalize dgB key r 0=x0 at *
 generalize dgB key r 1=x1 at *
 generalize dgB key r 2=x2 at *
 generalize dgB key r 3=x3 at *
 rw[zaf (fd:=fd71) rfl]
 simp(disch:=apply zq;omega) only[go_sem,simprocAttr,↓Nat.reduceEqDiff,xx,fd71,m71,c,g0,g1,g2,g3,zae,hl,H.bytes_all,hr2,H.noImms_bytesAV]
def L28 :MC:=match m90 with| .seq _ (.seq _ (.seq _ (.seq (.seq _ (.block _ (.loop _ b))) _)))=>b|_=>.skip
def S28 (D:List UInt8)(w a:Nat)(i:Nat):St:=⟨[.set 18 (i64 i),.set 17 (i64 4),.set 16 (.sl 8 [] 0 4),.set 7 (i64 a),.set 2 (i64 w)],[(8,.fix (.ar 16 .sc) (.agg (zad D)))]⟩
theorem place_at [Nonempty (H.GlK gl)](h:8<=n){key:List UInt8}(hk:key.length<=5000){r w:Nat}(hr:r<4)(hw:1<=w/\w<=4096):call gl tab n 90 [.str key,i64 r,i64 w] []=some (i64 ((plc key r%w:Nat):Int),[],[]):=by
 obtain⟨d,rfl⟩:=wJ h
 have c:call gl tab (d+7) 106 [.int .i64 (80+(r:Int)),.lst false .sc [.str key]] []=some (.agg (zad (H.dig (H.inp (80+(r:Int)) [key]))),[],[]):=H.of_at (gl:=gl) (n:=d+6) (by omega) (80+(r:Int)) false [key] (z0g hk)
 have hl:=H.dig_len (H.inp (80+(r:Int)) [key])
 have hr2:=H.rem_nat (plc key r) w (by omega)
 have hg:=fun i hi=>z4a key r i hi
 have ha:=qap key r
 rw[<-qmr]at hr2 ⊢
 generalize H.dig (H.inp (80+(r:Int)) [key])=D at *
 have hs:∀i,i<4->za1 [.slot 2,.slot 7,.slot 16,.slot 17,.slot 18,.key 8] (evC gl (call gl tab (d+7)) L28 (S28 D w (acc key r i) i))=some (S28 D w (acc key r (i+1)) (i+1)):=fun i hi=>by
  have hx:=hg i (by omega)
  have h1:acc key r i<2^50:=Nat.lt_of_lt_of_le (ha i) (wM (wN (by omega) (show i<=3 by omega)) (by decide))
  have h2:=shl8 _ h1
  have h3:=or8 _ _ h1 (zm2 key r i)
  have hb:=zm2 key r i
  rw[acc]
  generalize acc key r i=a at *
  generalize dgB key r i=x at *
  simp(disch:=apply zq;omega) only[go_sem,simprocAttr,↓Nat.reduceEqDiff,xx,L28,m90,S28,hx,h2,h3,zae,hl]
 simp only[L28,m90]at hs
 rw[zaf (fd:=fd90) rfl]
 simp(disch:=apply zq;omega) only[go_sem,simprocAttr,↓Nat.reduceEqDiff,xx,fd90,m90,c,zae,hl,H.bytes_all,H.noImms_bytesAV]
 rw[zaj (fun i=>S28 D w (acc key r i) i) 4 (by unfold LF;omega)]
 . simp(disch:=apply zq;omega) only[go_sem,simprocAttr,↓Nat.reduceEqDiff,xx,S28,hr2]
 . simp(disch:=apply zq;omega) only[go_sem,simprocAttr,↓Nat.reduceEqDiff,xx,S28,acc]
 . exact hs
 . simp(disch:=apply zq;omega) only[go_sem,simprocAttr,↓Nat.reduceEqDiff,xx,S28]
end Go.Proofs.S97.K
namespace Go.Proofs.S97.K
open Go Go.Ev Go.Proofs
section
variable {gl :Gl} {n:Nat}
def pw (i:Nat):Int:=if i<63 then 2^i else -9223372036854775808
theorem ztt {i:Nat}(h:i<63):pw i=((2^i:Nat):Int):=by rw[pw,if_pos h];simp
theorem zxu {i:Nat}(h:i<63):1<=pw i/\pw i<=4611686018427387904:=by
 rw[ztt h]
 have h1:2^i<=2^62:=wN (by omega) (by omega)
 have h2:0<2^i:=wQ (by omega)
 have h3:(2:Nat)^62=4611686018427387904:=by decide
 omega
theorem qg0 {i:Nat}(h:i<63):IntKind.wrap .i64 (pw i*2)=pw (i+1):=by
 by_cases h2:i+1<63
 . have h3:=zxu h2
   have h4:pw i*2=pw (i+1):=by rw[ztt h,ztt h2,wP];omega
   rw[h4,zay (by omega) (by omega)]
 . obtain rfl:i=62:=by omega
   decide
theorem qcp {i j:Nat}(hij:i<=j)(hj:j<63):pw i<=pw j:=by
 rw[ztt (by omega),ztt hj]
 have:2^i<=2^j:=wN (by omega) hij
 omega
def isP (w:Int):Prop:=∃i,i<63/\w=pw i
def L30 :MC:=match m50 with| .seq _ (.seq (.seq _ (.block _ (.loop _ b))) _)=>b|_=>.skip
def S30 (w:Int)(i:Nat):St:=⟨[.set 3 (i64 (pw i)),.set 0 (i64 w)],[]⟩
theorem rpower_at (h:1<=n)(w:Int):∃b:Bool,(b=true↔isP w)/\call gl tab n 50 [i64 w] []=some (.bool b,[],[]):=by
 obtain⟨d,rfl⟩:=wJ h
 have h63:pw 63=-9223372036854775808:=by decide
 obtain⟨k,hk,hb,he,hit⟩:=z2e (f:=evC gl (call gl tab d) L30) (ks:=[.slot 0,.slot 3]) (S30 w) 63 (fun i=>pw i<=w/\pw i≠w) (by unfold LF;omega)
  (fun i hi _ ⟨h1,h2⟩=>by
    have hp:=zxu hi
    have hm:=qg0 hi
    have h3:(pw i==w)=false:=by rw[beq_eq_false_iff_ne];exact h2
    rw[S30,S30,<-hm]
    generalize pw i=x at *
    simp(disch:=apply zq;omega) only[go_sem,simprocAttr,↓Nat.reduceEqDiff,xx,L30,m50,h3])
  (fun i hi _ h1=>by
    have hp:=zxu hi
    rw[S30]
    generalize pw i=x at *
    by_cases h2:x<=w
    . have h3:x=w:=Classical.byContradiction fun h3=>h1 ⟨h2,h3⟩
      subst h3
      simp(disch:=apply zq;omega) only[go_sem,simprocAttr,↓Nat.reduceEqDiff,xx,L30,m50,beq_self_eq_true]
    . simp(disch:=apply zq;omega) only[go_sem,simprocAttr,↓Nat.reduceEqDiff,xx,L30,m50])
  (fun _=>by
    rw[S30,h63]
    simp(disch:=apply zq;omega) only[go_sem,simprocAttr,↓Nat.reduceEqDiff,xx,L30,m50])
 simp only[L30,m50]at hit
 have h0:pw 0=1:=by decide
 by_cases hk2:k<63
 . have hp:=zxu hk2
   by_cases h2:pw k=w
   . refine⟨true,⟨fun _=>⟨k,hk2,h2.symm⟩,fun _=>rfl⟩,?_⟩
     rw[zaf (fd:=fd50) rfl]
     simp(disch:=apply zq;omega) only[go_sem,simprocAttr,↓Nat.reduceEqDiff,xx,fd50,m50]
     rw[hit _ (by rw[S30,h0];simp(disch:=apply zq;omega) only[go_sem,simprocAttr,↓Nat.reduceEqDiff,xx])]
     rw[S30,h2]
     rw[h2]at hp
     simp(disch:=apply zq;omega) only[go_sem,simprocAttr,↓Nat.reduceEqDiff,xx,beq_self_eq_true]
   . have h3:w<pw k:=by
      have:=he hk2
      refine Int.not_le.1 fun h4=>this ⟨h4,h2⟩
     refine⟨false,⟨(fun h=>by cases h),fun⟨i,hi,e⟩=> ?_⟩,?_⟩
     . exfalso
       by_cases h4:i<k
       . exact(hb i h4).2 e.symm
       . have:=qcp (show k<=i by omega) hi;omega
     . rw[zaf (fd:=fd50) rfl]
       simp(disch:=apply zq;omega) only[go_sem,simprocAttr,↓Nat.reduceEqDiff,xx,fd50,m50]
       rw[hit _ (by rw[S30,h0];simp(disch:=apply zq;omega) only[go_sem,simprocAttr,↓Nat.reduceEqDiff,xx])]
       rw[S30]
       generalize pw k=x at *
       simp(disch:=apply zq;omega) only[go_sem,simprocAttr,↓Nat.reduceEqDiff,xx]
 . obtain rfl:k=63:=by omega
   refine⟨false,⟨(fun h=>by cases h),fun⟨i,hi,e⟩=>absurd e.symm (hb i hi).2⟩,?_⟩
   rw[zaf (fd:=fd50) rfl]
   simp(disch:=apply zq;omega) only[go_sem,simprocAttr,↓Nat.reduceEqDiff,xx,fd50,m50]
   rw[hit _ (by rw[S30,h0];simp(disch:=apply zq;omega) only[go_sem,simprocAttr,↓Nat.reduceEqDiff,xx])]
   rw[S30,h63]
   simp(disch:=apply zq;omega) only[go_sem,simprocAttr,↓Nat.reduceEqDiff,xx]
end
end Go.Proofs.S97.K
namespace Go.Proofs.S97.K
open Go Go.Ev Go.Proofs
theorem zmj (a b c d:Nat)(hb:b<256)(hd:d<256):(256*a+b)&&&(256*c+d)=256*(a&&&c)+(b&&&d):=by
 have e1:((256*a+b)&&&(256*c+d))/256=a&&&c:=by
  have:=Nat.shiftRight_and_distrib (a:=256*a+b) (b:=256*c+d) (i:=8)
  simp only[wH]at this
  rw[show(2:Nat)^8=256 from rfl]at this
  rw[this];congr 1<;>omega
 have e2:((256*a+b)&&&(256*c+d))%256=b&&&d:=by
  have:=Nat.and_mod_two_pow (a:=256*a+b) (b:=256*c+d) (n:=8)
  rw[show(2:Nat)^8=256 from rfl]at this
  rw[this];congr 1<;>omega
 rw[<-e1,<-e2];exact(wO _ 256).symm
def mk (m:Nat):Nat->Nat
 | 0=>0
 | k+1=>256*mk m k+m
def y1 (b:Nat):Nat:=((b/2)&&&85)+(b&&&85)
def y2 (b:Nat):Nat:=((b/4)&&&51)+(b&&&51)
def y3 (b:Nat):Nat:=(b/16+b)&&&15
def X1 (k x:Nat):Nat:=((x/2)&&&mk 85 k)+(x&&&mk 85 k)
def X2 (k x:Nat):Nat:=((x/4)&&&mk 51 k)+(x&&&mk 51 k)
def X3 (k x:Nat):Nat:=(x/16+x)&&&mk 15 k
theorem d1 :∀t:Fin 2,∀y:Fin 128,(128*t.val+y.val)&&&85=y.val&&&85:=by decide +kernel
theorem d2 :∀t:Fin 4,∀y:Fin 64,(64*t.val+y.val)&&&51=y.val&&&51:=by decide +kernel
theorem d3 :∀y:Fin 256,y.val&&&15=y.val%16:=by decide +kernel
theorem dy :∀b:Fin 256,y1 b.val<256/\y2 (y1 b.val)<256/\y2 (y1 b.val)/16<=4/\y2 (y1 b.val)%16<=4/\y3 (y2 (y1 b.val))<=8:=by decide +kernel
theorem X1_s (k a b:Nat)(hb:b<256):X1 (k+1) (256*a+b)=256*X1 k a+y1 b:=by
 unfold X1 y1
 have e:(256*a+b)/2=256*(a/2)+(128*(a%2)+b/2):=by omega
 have h1:=d1 ⟨a%2,by omega⟩ ⟨b/2,by omega⟩
 simp only at h1
 rw[e,mk,zmj _ _ _ _ (by omega) (by omega),zmj _ _ _ _ hb (by omega),h1];omega
theorem X2_s (k a b:Nat)(hb:b<256):X2 (k+1) (256*a+b)=256*X2 k a+y2 b:=by
 unfold X2 y2
 have e:(256*a+b)/4=256*(a/4)+(64*(a%4)+b/4):=by omega
 have h1:=d2 ⟨a%4,by omega⟩ ⟨b/4,by omega⟩
 simp only at h1
 rw[e,mk,zmj _ _ _ _ (by omega) (by omega),zmj _ _ _ _ hb (by omega),h1];omega
theorem X3_s (k a b:Nat)(hb:b/16<=4/\b%16<=4)(ha:a%16<=4):X3 (k+1) (256*a+b)=256*X3 k a+y3 b:=by
 unfold X3 y3
 have e:(256*a+b)/16+(256*a+b)=256*(a/16+a)+(16*(a%16)+b/16+b):=by omega
 have h1:=d3 ⟨16*(a%16)+b/16+b,by omega⟩
 have h2:=d3 ⟨b/16+b,by omega⟩
 simp only at h1 h2
 rw[e,mk,zmj _ _ _ _ (by omega) (by omega),h1,h2];omega
def pcb (b:Nat):Nat:=y3 (y2 (y1 b))
def Z (k x:Nat):Nat:=X3 k (X2 k (X1 k x))
theorem qj7 (k x:Nat):X2 k (X1 k x)%16<=4:=by
 cases k with
 | zero=>simp[X2,mk]
 | succ k =>
   have e:x=256*(x/256)+x%256:=(wO x 256).symm
   have h:=dy ⟨x%256,by omega⟩
   simp only at h
   rw[e,X1_s _ _ _ (by omega),X2_s _ _ _ h.1];omega
theorem Z_s (k a b:Nat)(hb:b<256):Z (k+1) (256*a+b)=256*Z k a+pcb b:=by
 have h:=dy ⟨b,hb⟩
 simp only at h
 unfold Z pcb
 rw[X1_s _ _ _ hb,X2_s _ _ _ h.1,X3_s _ _ _ ⟨h.2.2.1,h.2.2.2.1⟩ (qj7 k a)]
theorem Z_0 (x:Nat):Z 0 x=0:=by simp[Z,X3,mk]
theorem zkk (b:Nat)(h:b<256):pcb b<=8:=(dy ⟨b,h⟩).2.2.2.2
theorem Z_8 {x:Nat}(hx:x<2^64):∃b0 b1 b2 b3 b4 b5 b6 b7:Nat,b0<256/\b1<256/\b2<256/\b3<256/\b4<256/\b5<256/\b6<256/\b7<256 /\
  x=256*(256*(256*(256*(256*(256*(256*b7+b6)+b5)+b4)+b3)+b2)+b1)+b0 /\
  Z 8 x=256*(256*(256*(256*(256*(256*(256*pcb b7+pcb b6)+pcb b5)+pcb b4)+pcb b3)+pcb b2)+pcb b1)+pcb b0:=by
 refine⟨x%256,x/256%256,x/256/256%256,x/256/256/256%256,x/256/256/256/256%256,x/256/256/256/256/256%256,x/256/256/256/256/256/256%256,x/256/256/256/256/256/256/256%256,by omega,by omega,by omega,by omega,by omega,by omega,by omega,by omega,by omega,?_⟩
 have s:∀k y,Z (k+1) y=256*Z k (y/256)+pcb (y%256):=fun k y=>by
  have:=Z_s k (y/256) (y%256) (by omega)
  rwa [wO]at this
 rw[s,s,s,s,s,s,s,s,Z_0]
 simp only[Nat.mul_zero,Nat.zero_add]
end Go.Proofs.S97.K
namespace Go.Proofs.S97.K
open Go Go.Ev Go.Proofs
variable {gl :Gl} {n:Nat}
def a1 (x:BitVec 64):BitVec 64:=(x>>>(1:Nat)&&&6148914691236517205#64)+(x&&&6148914691236517205#64)
def a2 (x:BitVec 64):BitVec 64:=(x>>>(2:Nat)&&&3689348814741910323#64)+(x&&&3689348814741910323#64)
def a3 (x:BitVec 64):BitVec 64:=(x>>>(4:Nat)+x)&&&1085102592571150095#64
def a4 (x:BitVec 64):BitVec 64:=x+x>>>(8:Nat)
def a5 (x:BitVec 64):BitVec 64:=x+x>>>(16:Nat)
def a6 (x:BitVec 64):BitVec 64:=x+x>>>(32:Nat)
def sw (x:BitVec 64):BitVec 64:=a6 (a5 (a4 (a3 (a2 (a1 x)))))
theorem qcv (h:1<=n)(x:BitVec 64):call gl tab n 110 [.int .u64 (x.toNat:Int)] []=some (.int .i64 (sw x&&&127#64).toInt,[],[]):=by
 obtain⟨d,rfl⟩:=wJ h
 rw[zaf (fd:=z8c) rfl]
 have h127:BitVec.ofInt 64 127=127#64:=rfl
 simp(disch:=apply zq;omega) only[go_sem,simprocAttr,↓Nat.reduceEqDiff,xx,z8c,m110,qfj,h127,sw,a6,a5,a4,a3,a2,a1]
end Go.Proofs.S97.K
namespace Go.Proofs.S97.K
open Go Go.Ev Go.Proofs
theorem mk85 :mk 85 8=6148914691236517205:=by decide
theorem mk51 :mk 51 8=3689348814741910323:=by decide
theorem mk15 :mk 15 8=1085102592571150095:=by decide
theorem qj6 (x:BitVec 64):(a1 x).toNat=X1 8 x.toNat/\X1 8 x.toNat<=12297829382473034410:=by
 have h1:=wL (n:=x.toNat/2) (m:=6148914691236517205)
 have h2:=wL (n:=x.toNat) (m:=6148914691236517205)
 unfold a1 X1
 rw[mk85,wE,wB,wB,wC,wH]
 simp only[wD,Nat.reducePow,Nat.reduceMod]
 omega
theorem qj5 (x:BitVec 64):(a2 x).toNat=X2 8 x.toNat/\X2 8 x.toNat<=7378697629483820646:=by
 have h1:=wL (n:=x.toNat/4) (m:=3689348814741910323)
 have h2:=wL (n:=x.toNat) (m:=3689348814741910323)
 unfold a2 X2
 rw[mk51,wE,wB,wB,wC,wH]
 simp only[wD,Nat.reducePow,Nat.reduceMod]
 omega
theorem qj4 (x:BitVec 64)(h:x.toNat<=7378697629483820646):(a3 x).toNat=X3 8 x.toNat:=by
 unfold a3 X3
 rw[mk15,wB,wE,wC,wH]
 simp only[wD,Nat.reducePow,Nat.reduceMod]
 rw[wK (by omega)]
theorem qms (x:BitVec 64):(a3 (a2 (a1 x))).toNat=Z 8 x.toNat:=by
 have h1:=qj6 x
 have h2:=qj5 (a1 x)
 rw[qj4 _ (by rw[h2.1];exact h2.2),h2.1,h1.1];rfl
end Go.Proofs.S97.K
namespace Go.Proofs.S97.K
open Go Go.Ev Go.Proofs
theorem dv (c x r:Nat)(hc:0<c)(h:r<c):(c*x+r)/c=x:=by
 rw[Nat.mul_add_div hc,Nat.div_eq_of_lt h,Nat.add_zero]
theorem zo5 {z:BitVec 64}{k:Nat}{c x r:Nat}(hk:c=2^k)(hz:z.toNat=c*x+r)(hr:r<c)(hb:c*x+r+x<18446744073709551616):(z+z>>>k).toNat=c*x+r+x:=by
 rw[wE,wC,wH,<-hk,hz,dv c x r (by rw[hk];exact wQ (by omega)) hr]
 exact wK hb
theorem lin4 {p0 p1 p2 p3 p4 p5 p6 p7:Nat}:256*(256*(256*(256*(256*(256*(256*p7+p6)+p5)+p4)+p3)+p2)+p1)+p0+(256*(256*(256*(256*(256*(256*p7+p6)+p5)+p4)+p3)+p2)+p1) =
  65536*(256*(256*(256*(256*(256*p7+(p6+p7))+(p5+p6))+(p4+p5))+(p3+p4))+(p2+p3))+(256*(p1+p2)+(p0+p1)):=by omega
theorem lin5 {q0 q1 q2 q3 q4 q5 q6 q7:Nat}:65536*(256*(256*(256*(256*(256*q7+q6)+q5)+q4)+q3)+q2)+(256*q1+q0)+(256*(256*(256*(256*(256*q7+q6)+q5)+q4)+q3)+q2) =
  4294967296*(256*(256*(256*q7+q6)+(q5+q7))+(q4+q6))+(256*(256*(256*(q3+q5)+(q2+q4))+(q1+q3))+(q0+q2)):=by omega
theorem lin6 {r0 r1 r2 r3 r4 r5 r6 r7:Nat}:4294967296*(256*(256*(256*r7+r6)+r5)+r4)+(256*(256*(256*r3+r2)+r1)+r0)+(256*(256*(256*r7+r6)+r5)+r4) =
  128*(33554432*(256*(256*(256*r7+r6)+r5)+r4)+2*(256*(256*r3+r2)+r1)+2*(256*(256*r7+r6)+r5))+(r0+r4):=by omega
theorem qj3 {z:BitVec 64}{p0 p1 p2 p3 p4 p5 p6 p7:Nat}(h:z.toNat=256*(256*(256*(256*(256*(256*(256*p7+p6)+p5)+p4)+p3)+p2)+p1)+p0)
  (h0:p0<=8) (h1:p1<=8) (h2:p2<=8) (h3:p3<=8) (h4:p4<=8) (h5:p5<=8) (h6:p6<=8) (h7:p7<=8) :
  (a4 z).toNat=65536*(256*(256*(256*(256*(256*p7+(p6+p7))+(p5+p6))+(p4+p5))+(p3+p4))+(p2+p3))+(256*(p1+p2)+(p0+p1)):=by
 rw[<-lin4]
 exact zo5 (k:=8) (c:=256) rfl h (by omega) (by omega)
theorem qj2 {z:BitVec 64}{q0 q1 q2 q3 q4 q5 q6 q7:Nat}(h:z.toNat=65536*(256*(256*(256*(256*(256*q7+q6)+q5)+q4)+q3)+q2)+(256*q1+q0))
  (h0:q0<=16) (h1:q1<=16) (h2:q2<=16) (h3:q3<=16) (h4:q4<=16) (h5:q5<=16) (h6:q6<=16) (h7:q7<=16) :
  (a5 z).toNat=4294967296*(256*(256*(256*q7+q6)+(q5+q7))+(q4+q6))+(256*(256*(256*(q3+q5)+(q2+q4))+(q1+q3))+(q0+q2)):=by
 rw[<-lin5]
 exact zo5 (k:=16) (c:=65536) rfl h (by omega) (by omega)
theorem qj1 {z:BitVec 64}{r0 r1 r2 r3 r4 r5 r6 r7:Nat}(h:z.toNat=4294967296*(256*(256*(256*r7+r6)+r5)+r4)+(256*(256*(256*r3+r2)+r1)+r0))
  (h0:r0<=32) (h1:r1<=32) (h2:r2<=32) (h3:r3<=32) (h4:r4<=32) (h5:r5<=32) (h6:r6<=32) (h7:r7<=32):(a6 z&&&127#64).toNat=r0+r4:=by
 have e:=zo5 (k:=32) (c:=4294967296) rfl h (by omega) (by omega)
 rw[lin6]at e
 have e2:(127#64).toNat=2^7-1:=rfl
 rw[wB,e2,Nat.and_two_pow_sub_one_eq_mod,a6,e]
 generalize 33554432*(256*(256*(256*r7+r6)+r5)+r4)+2*(256*(256*r3+r2)+r1)+2*(256*(256*r7+r6)+r5)=K
 omega
theorem z5f {z:BitVec 64}{p0 p1 p2 p3 p4 p5 p6 p7:Nat}(h0:p0<=8)(h1:p1<=8)(h2:p2<=8)(h3:p3<=8)(h4:p4<=8)(h5:p5<=8)(h6:p6<=8)(h7:p7<=8)
  (h:z.toNat=256*(256*(256*(256*(256*(256*(256*p7+p6)+p5)+p4)+p3)+p2)+p1)+p0) :
  (a6 (a5 (a4 z))&&&127#64).toNat=p0+p1+(p2+p3)+(p4+p5+(p6+p7)):=by
 have b0:p0+p1<=16:=wG h0 h1
 have b1:p1+p2<=16:=wG h1 h2
 have b2:p2+p3<=16:=wG h2 h3
 have b3:p3+p4<=16:=wG h3 h4
 have b4:p4+p5<=16:=wG h4 h5
 have b5:p5+p6<=16:=wG h5 h6
 have b6:p6+p7<=16:=wG h6 h7
 have e4:=qj3 h h0 h1 h2 h3 h4 h5 h6 h7
 have e5:=qj2 (z:=a4 z) (q0:=p0+p1) (q1:=p1+p2) (q2:=p2+p3) (q3:=p3+p4) (q4:=p4+p5) (q5:=p5+p6) (q6:=p6+p7) (q7:=p7) e4 b0 b1 b2 b3 b4 b5 b6 (wM h7 (by decide))
 exact qj1 (z:=a5 (a4 z)) (r0:=p0+p1+(p2+p3)) (r1:=p1+p2+(p3+p4)) (r2:=p2+p3+(p4+p5)) (r3:=p3+p4+(p5+p6)) (r4:=p4+p5+(p6+p7)) (r5:=p5+p6+p7) (r6:=p6+p7) (r7:=p7) e5
  (wG b0 b2) (wG b1 b3) (wG b2 b4) (wG b3 b5) (wG b4 b6) (wM (wG b5 h7) (by decide)) (wM b6 (by decide)) (wM h7 (by decide))
end Go.Proofs.S97.K
