/-
  The hash's parts: what they compute. No condition.
-/
import Derived.Test.YthipjfnealbheaaGreatDoorW97G4x4
set_option linter.all false
open List renaming getD_eq_getElem?_getD->wB,getElem?_eq_getElem->wC,length_set->wD,getElem?_map->wE,all_eq_true->wF,mem_map->wG
open BitVec renaming shiftLeft_add->wH
namespace Go.Proofs.S97.H
open Go Go.Ev Go.Proofs Go.Proofs.S97
variable {gl :Gl}
def rr (x:BitVec 32)(i:Nat):BitVec 32:=x<<<(32-i)|||x>>>i
theorem zw4 :∀i:Fin 32,BitVec.ofInt 64 (-(i.val:Int))&&&31#64=BitVec.ofNat 64 ((32-i.val)%32):=by decide +kernel
theorem qbh :∀i:Fin 32,(0<i.val->(32#64-BitVec.ofNat 64 ((32-i.val)%32)).toNat=i.val/\(BitVec.ofNat 64 ((32-i.val)%32)).toNat=32-i.val):=by decide +kernel
theorem zlk (d:Nat)(x:BitVec 32)(i:Nat)(h0:0<i)(h:i<32):call gl tab (d+1) 128 [u32 x,.int .i64 (-(i:Int))] []=some (u32 (rr x i),[],[]):=by
 have h1:=zw4 ⟨i,h⟩
 have ⟨h2,h3⟩:=qbh ⟨i,h⟩ h0
 have h4:(32-i)%32=32-i:=Nat.mod_eq_of_lt (by omega)
 simp only[h4]at h1 h2 h3
 rw[zaf (fd:=z7a) rfl]
 simp only[z7a,m128,go_sem,simprocAttr,↓Nat.reduceEqDiff,h1,h2,h3,rr]
theorem qb5 (i:Nat)(h:i<64):IntKind.wrap .i64 (0-(i:Int))=-(i:Int):=by rw[zaw (by omega) (by omega)];omega
theorem z82 (d:Nat)(x:BitVec 32)(i j k:Nat)(hi:0<i)(hi':i<32)(hj:0<j)(hj':j<32)(hk:0<k)(hk':k<32) :
  call gl tab (d+2) 127 [u32 x,.int .i64 (i:Int),.int .i64 (j:Int),.int .i64 (k:Int)] []=some (u32 (rr x i^^^rr x j^^^rr x k),[],[]):=by
 rw[zaf (fd:=z7b) rfl]
 simp only[z7b,m127,go_sem,simprocAttr,↓Nat.reduceEqDiff,qb5 i (by omega),qb5 j (by omega),qb5 k (by omega),zlk d x i hi hi',zlk d x j hj hj',zlk d x k hk hk']
abbrev Ws :=List (BitVec 32)
def wsAV (l:Ws):List AV:=l.map fun x=>u32 x
theorem zb7 (l:Ws):(wsAV l).length=l.length:=by simp[wsAV]
theorem zck {l:Ws}{i:Nat}(h:i<l.length):(wsAV l)[i]? =some (u32 (l.getD i 0)):=by
 rw[wsAV,wE,wC h,wB,wC h];rfl
theorem zig (l:Ws)(i:Nat)(x:BitVec 32):wsAV (l.set i x)=(wsAV l).set i (u32 x):=by simp[wsAV,List.map_set]
def bt (b:List UInt8)(i:Nat):BitVec 32:=((b.getD i 0).toBitVec).setWidth 32
def word (b:List UInt8)(t:Nat):BitVec 32:=bt b (4*t)<<<(24:Nat)|||bt b (4*t+1)<<<(16:Nat)|||bt b (4*t+2)<<<(8:Nat)|||bt b (4*t+3)
def qb4 (l:Ws)(t:Nat):BitVec 32 :=
 l.getD (t-16) 0+(rr (l.getD (t-15) 0) 7^^^rr (l.getD (t-15) 0) 18^^^l.getD (t-15) 0>>>(3:Nat))+l.getD (t-7) 0+(rr (l.getD (t-2) 0) 17^^^rr (l.getD (t-2) 0) 19^^^l.getD (t-2) 0>>>(10:Nat))
def zbn (b:List UInt8):Nat->Ws
 | 0=>List.replicate 64 0
 | t+1=>(zbn b t).set t (if t<16 then word b t else qb4 (zbn b t) t)
theorem za1 (b:List UInt8)(t:Nat):(zbn b t).length=64:=by
 induction t with
 | zero=>simp[zbn]
 | succ t ih=>rw[zbn,wD,ih]
theorem rot7 (d:Nat)(x:BitVec 32):call gl tab (d+1) 128 [u32 x,.int .i64 (-7)] []=some (u32 (rr x 7),[],[]):=zlk d x 7 (by omega) (by omega)
theorem qjk (d:Nat)(x:BitVec 32):call gl tab (d+1) 128 [u32 x,.int .i64 (-18)] []=some (u32 (rr x 18),[],[]):=zlk d x 18 (by omega) (by omega)
theorem qjl (d:Nat)(x:BitVec 32):call gl tab (d+1) 128 [u32 x,.int .i64 (-17)] []=some (u32 (rr x 17),[],[]):=zlk d x 17 (by omega) (by omega)
theorem qjj (d:Nat)(x:BitVec 32):call gl tab (d+1) 128 [u32 x,.int .i64 (-19)] []=some (u32 (rr x 19),[],[]):=zlk d x 19 (by omega) (by omega)
theorem zuk (l:Ws):(wsAV l).all AV.scalar=true:=by
 rw[wF];intro x hx
 obtain⟨y,_,rfl⟩:=wG.1 hx;rfl
theorem qfu (b:List UInt8):AV.agg (wsAV (zbn b 0))= .agg (List.replicate 64 (.int .u32 0)):=rfl
def zer64 :AV:=.agg (List.replicate 64 (.int .u32 0))
theorem zek :zer64.refs=[]:=by kernel_rfl
theorem zwu (b:List UInt8)(t:Nat):∀i,t<=i->(zbn b t).getD i 0=0:=by
 induction t with
 | zero=>intro i _;rw[zbn,wB,List.getElem?_replicate];split<;>rfl
 | succ t ih =>
   intro i hi
   rw[zbn,wB,List.getElem?_set_ne (by omega),<-wB]
   exact ih i (by omega)
def accW (b:List UInt8)(t:Nat):Nat->BitVec 32
 | 0=>0#32
 | j+1=>accW b t j<<<(8:Nat)|||bt b (4*t+j)
theorem zm7 (a b:BitVec 32)(n:Nat):(a|||b)<<<n=a<<<n|||b<<<n:=by
 apply BitVec.eq_of_getLsbD_eq;intro i hi
 simp only[BitVec.getLsbD_shiftLeft,BitVec.getLsbD_or]
 cases decide (i<n)<;>simp[hi]
theorem qi0 (b:List UInt8)(t:Nat):accW b t 4=word b t:=by
 simp only[accW,word,Nat.add_zero]
 rw[zm7,zm7,zm7,zm7,zm7,zm7,<-wH,<-wH,<-wH]
 simp
theorem bytesAV_getD {l:List UInt8}{i:Nat}(h:i<l.length):(zac l)[i]? =some (.int .u8 ((l.getD i 0).toBitVec.toNat:Int)):=by
 rw[zie h,wB,wC h];rfl
def S51 (nb:Bool)(b:List UInt8)(t:Nat):St :=
 ⟨[.set 11 (.int .i64 t),.set 3 (.ptr 3 []),.set 2 (.ptr 2 []),.set 0 (.lst nb .sc (zac b))],[(3,.fix (.ar 64 .sc) (.agg (wsAV (zbn b t)))),(2,.fix (.ar 64 .sc) zer64)]⟩
def blkW (b:List UInt8)(t:Nat):List AV:=List.drop (4*t) (List.take (4*t+4) (zac b))
theorem zwf {b:List UInt8}(hb:b.length=64){t:Nat}(ht:t<16):(blkW b t).length=4:=by
 rw[blkW,List.length_drop,List.length_take,zae,hb];omega
theorem z8g {b:List UInt8}(hb:b.length=64){t j:Nat}(ht:t<16)(hj:j<4):(blkW b t)[j]? =some (.int .u8 ((b.getD (4*t+j) 0).toBitVec.toNat:Int)):=by
 rw[blkW,List.getElem?_drop,List.getElem?_take_of_lt (by omega),bytesAV_getD (by omega)]
def S51b (nb:Bool)(b:List UInt8)(t j:Nat):St :=
 ⟨[.set 24 (.int .i64 j),.set 23 (.int .i64 4),.set 22 (.lst (nb&&4*t==60) .sc (blkW b t)),.set 11 (.int .i64 t),.set 4 (.int .i64 t),.set 3 (.ptr 3 []),.set 2 (.ptr 2 []),.set 0 (.lst nb .sc (zac b))],
  [(3,.fix (.ar 64 .sc) (.agg (wsAV ((zbn b t).set t (accW b t j))))),(2,.fix (.ar 64 .sc) zer64)]⟩
theorem set_self (l:Ws)(i:Nat)(h:l.getD i 0=0):l.set i 0#32=l:=by
 apply List.ext_getElem?
 intro j
 rw[List.getElem?_set]
 split
 . rename_i e;subst e
   split
   . rename_i hl
     rw[wB,wC hl]at h
     rw[wC hl];congr 1;exact h.symm
   . rename_i hl;rw[List.getElem?_eq_none (by omega)]
 . rfl
theorem qbb (l:Ws)(t:Nat)(x:BitVec 32)(h:t<l.length):(l.set t x).getD t 0=x:=by
 rw[wB,List.getElem?_set_self h];rfl
theorem z43 (d:Nat)(nb:Bool)(b:List UInt8)(hb:b.length=64):call gl tab (d+2) 126 [.lst nb .sc (zac b)] []=some (.agg (wsAV (zbn b 64)),[],[]):=by
 have hz:AV.agg (List.replicate 64 (.int .u32 0))=zer64:=rfl
 rw[zaf (fd:=z7c) rfl]
 simp only[z7c,m126,hz,go_sem,simprocAttr,↓Nat.reduceEqDiff]
 rw[zaj (S51 nb b) 64 (by unfold LF;omega)]
 . simp only[S51,go_sem,simprocAttr,↓Nat.reduceEqDiff,zb7,za1,zuk]
 . simp only[S51,qfu,zer64,go_sem,simprocAttr,↓Nat.reduceEqDiff]
 . intro t ht
   by_cases h16:t<16
   . have hw1:IntKind.wrap .i64 (4*(t:Int))=((4*t:Nat):Int):=by rw[zaw (by omega) (by omega)];omega
     have hw2:IntKind.wrap .i64 (((4*t:Nat):Int)+4)=((4*t+4:Nat):Int):=by rw[zaw (by omega) (by omega)];omega
     have hle:4*t+4<=64:=by omega
     have hsub:4*t+4-4*t=4:=by omega
     have hbl:List.drop (4*t) (List.take (4*t+4) (zac b))=blkW b t:=rfl
     simp only[S51,go_sem,simprocAttr,↓Nat.reduceEqDiff,ht,h16,hw1,hw2,zae,hb,hle,Nat.le_add_right,hsub,hbl,zwf hb h16]
     rw[zaj (S51b nb b t) 4 (by unfold LF;omega)]
     . simp only[S51b,go_sem,simprocAttr,↓Nat.reduceEqDiff,zek,qi0,zd0 (show t<2^62 by omega),zbn,h16]
     . have h0:(zbn b t).set t (accW b t 0)=zbn b t:=set_self _ _ (zwu b t t (by omega))
       simp only[S51b,go_sem,simprocAttr,↓Nat.reduceEqDiff,zek,h0,Bool.and_false]
     . intro j hj
       have gt:=zck (l:=(zbn b t).set t (accW b t j)) (i:=t) (by rw[wD,za1];omega)
       rw[qbb _ _ _ (by rw[za1];omega),zig]at gt
       have hss:(zbn b t).set t (accW b t (j+1))=((zbn b t).set t (accW b t j)).set t (accW b t (j+1)):=by rw[List.set_set]
       rw[show S51b nb b t (j+1)=⟨(S51b nb b t (j+1)).fr,[(3,.fix (.ar 64 .sc) (.agg (wsAV (((zbn b t).set t (accW b t j)).set t (accW b t (j+1)))))),(2,.fix (.ar 64 .sc) zer64)]⟩ by rw[<-hss];rfl]
       simp only[S51b,go_sem,simprocAttr,↓Nat.reduceEqDiff,zek,hj,ht,zwf hb h16,z8g hb h16 hj,gt,zig,wD,zb7,za1,accW,bt,zd0 (show j<2^62 by omega)]
     . simp only[S51b,go_sem,simprocAttr,↓Nat.reduceEqDiff]
   . have h15:IntKind.wrap .i64 ((t:Int)-15)=((t-15:Nat):Int):=by rw[zaw (by omega) (by omega)];omega
     have h2:IntKind.wrap .i64 ((t:Int)-2)=((t-2:Nat):Int):=by rw[zaw (by omega) (by omega)];omega
     have h7:IntKind.wrap .i64 ((t:Int)-7)=((t-7:Nat):Int):=by rw[zaw (by omega) (by omega)];omega
     have h6:IntKind.wrap .i64 ((t:Int)-16)=((t-16:Nat):Int):=by rw[zaw (by omega) (by omega)];omega
     have g15:=zck (l:=zbn b t) (i:=t-15) (by rw[za1];omega)
     have g2:=zck (l:=zbn b t) (i:=t-2) (by rw[za1];omega)
     have g7:=zck (l:=zbn b t) (i:=t-7) (by rw[za1];omega)
     have g6:=zck (l:=zbn b t) (i:=t-16) (by rw[za1];omega)
     have gt:=zck (l:=zbn b t) (i:=t) (by rw[za1];omega)
     simp only[S51,go_sem,simprocAttr,↓Nat.reduceEqDiff,zek,gt,ht,h16,h15,h2,h7,h6,g15,g2,g7,g6,zb7,za1,show t-15<64 by omega,show t-2<64 by omega,show t-7<64 by omega,show t-16<64 by omega,rot7,qjk,qjl,qjj,zd0 (show t<2^62 by omega),zbn,zig,qb4]
 . simp only[S51,go_sem,simprocAttr,↓Nat.reduceEqDiff]
end Go.Proofs.S97.H
namespace Go.Proofs.S97.H
open Go Go.Ev Go.Proofs Go.Proofs.S97
variable {gl :Gl} [Nonempty (GlK gl)]
structure H8 where
 a:BitVec 32
 b:BitVec 32
 c:BitVec 32
 d:BitVec 32
 e:BitVec 32
 f:BitVec 32
 g:BitVec 32
 h:BitVec 32
def H8.av (s:H8):AV:=.agg [u32 s.a,u32 s.b,u32 s.c,u32 s.d,u32 s.e,u32 s.f,u32 s.g,u32 s.h]
def zgp (s:H8)(k wt:BitVec 32):H8 :=
 let x:=s.h+(rr s.e 6^^^rr s.e 11^^^rr s.e 25)+(s.e&&&s.f^^^ ~~~ s.e&&&s.g)+k+wt
 let y:=rr s.a 2^^^rr s.a 13^^^rr s.a 22
 ⟨x+(y+(s.a&&&s.b^^^s.a&&&s.c^^^s.b&&&s.c)),s.a,s.b,s.c,s.d+x,s.e,s.f,s.g⟩
def zbx (s:H8)(ws:Ws):Nat->H8
 | 0=>s
 | t+1=>zgp (zbx s ws t) (kList.getD t 0) (ws.getD t 0)
def addH (s v:H8):H8:=⟨s.a+v.a,s.b+v.b,s.c+v.c,s.d+v.d,s.e+v.e,s.f+v.f,s.g+v.g,s.h+v.h⟩
def zm1 (s:H8)(b:List UInt8):H8:=addH s (zbx s (zbn b 64) 64)
theorem z44 {n:Nat}(h:2<=n)(nb:Bool){b:List UInt8}(hb:b.length=64):call gl tab n 126 [.lst nb .sc (zac b)] []=some (.agg (wsAV (zbn b 64)),[],[]):=by
 obtain⟨d,rfl⟩:=Nat.exists_eq_add_of_le' h
 exact z43 d nb b hb
theorem mix1 (d:Nat)(x:BitVec 32):call gl tab (d+2) 127 [u32 x,.int .i64 6,.int .i64 11,.int .i64 25] []=some (u32 (rr x 6^^^rr x 11^^^rr x 25),[],[]) :=
 z82 d x 6 11 25 (by omega) (by omega) (by omega) (by omega) (by omega) (by omega)
theorem mix2 (d:Nat)(x:BitVec 32):call gl tab (d+2) 127 [u32 x,.int .i64 2,.int .i64 13,.int .i64 22] []=some (u32 (rr x 2^^^rr x 13^^^rr x 22),[],[]) :=
 z82 d x 2 13 22 (by omega) (by omega) (by omega) (by omega) (by omega) (by omega)
theorem z88 (n:Nat)(h:n<64):kA[n]? =some (u32 (kList.getD n 0)):=by
 unfold kA
 rw[wE,wB,wC (by simpa[kList]using h)];rfl
theorem z87 :kA.length=64:=rfl
theorem z89 :kA.all AV.scalar=true:=by
 rw[wF];intro x hx
 obtain⟨y,_,rfl⟩:=wG.1 hx;rfl
def zq6 (s v:H8):Nat->H8
 | 0=>s
 | 1=>⟨s.a+v.a,s.b,s.c,s.d,s.e+v.e,s.f,s.g,s.h⟩
 | 2=>⟨s.a+v.a,s.b+v.b,s.c,s.d,s.e+v.e,s.f+v.f,s.g,s.h⟩
 | 3=>⟨s.a+v.a,s.b+v.b,s.c+v.c,s.d,s.e+v.e,s.f+v.f,s.g+v.g,s.h⟩
 | _+4=>addH s v
theorem wl1 :IntKind.wrap .i64 1=1:=by decide
theorem wl2 :IntKind.wrap .i64 2=2:=by decide
theorem wl3 :IntKind.wrap .i64 3=3:=by decide
theorem wl4 :IntKind.wrap .i64 4=4:=by decide
theorem wl5 :IntKind.wrap .i64 5=5:=by decide
theorem wl6 :IntKind.wrap .i64 6=6:=by decide
theorem wl7 :IntKind.wrap .i64 7=7:=by decide
theorem notc (x:BitVec 32):@HXor.hXor (BitVec 32) (BitVec 32) (BitVec 32) (@instHXorOfXorOp (BitVec (IntKind.bits .u32)) (@BitVec.instXorOp (IntKind.bits .u32))) (BitVec.ofInt 32 (if IntKind.u32.signed=true then -1 else IntKind.u32.max)) x= ~~~ x:=by
 have:BitVec.ofInt 32 (if IntKind.u32.signed=true then -1 else IntKind.u32.max)=BitVec.allOnes 32:=by decide
 show BitVec.ofInt 32 (if IntKind.u32.signed=true then -1 else IntKind.u32.max)^^^x= ~~~ x
 rw[this,BitVec.allOnes_xor]
abbrev z8 :AV:=.agg [.int .u32 0,.int .u32 0,.int .u32 0,.int .u32 0,.int .u32 0,.int .u32 0,.int .u32 0,.int .u32 0]
def L47 :MC:=match m120 with
 | .seq _ (.seq _ (.seq _ (.seq (.seq _ (.block _ (.loop _ b))) _)))=>b
 | _=>.skip
def L47b :MC:=match m120 with
 | .seq _ (.seq _ (.seq _ (.seq _ (.seq (.seq _ (.block _ (.loop _ b))) _))))=>b
 | _=>.skip
def K47 :List Kp:=[.slot 2,.slot 4,.slot 5,.slot 6,.slot 7,.slot 21,.slot 22,.key 2,.key 4,.key 5,.key 6,.key 7]
theorem qfd (F:Ev.Cl)(m1:∀x:BitVec 32,F 127 [u32 x,.int .i64 6,.int .i64 11,.int .i64 25] []=some (u32 (rr x 6^^^rr x 11^^^rr x 25),[],[]))(m2:∀x:BitVec 32,F 127 [u32 x,.int .i64 2,.int .i64 13,.int .i64 22] []=some (u32 (rr x 2^^^rr x 13^^^rr x 22),[],[]))(s:H8)(ws:Ws)(hl:ws.length=64)(t:Nat)(ht:t<64)(v:H8)(k x:BitVec 32)(hk:kA[t]? =some (u32 k))(hx:(wsAV ws)[t]? =some (u32 x)) :
  zba K47 (evC gl F L47 ⟨[.set 22 (.int .i64 t),.set 21 (.agg kA),.set 7 (.ptr 7 []),.set 6 (.ptr 6 []),.set 5 (.ptr 5 []),.set 4 (.ptr 4 []),.set 2 (.ptr 2 [])],
   [(7,.fix (.ar 4 .sc) (.agg [u32 v.e,u32 v.f,u32 v.g,u32 v.h])),(6,.fix (.ar 4 .sc) (.agg [u32 v.a,u32 v.b,u32 v.c,u32 v.d])),(5,.fix (.ar 64 .sc) (.agg (wsAV ws))),(4,.fix (.ar 8 .sc) z8),(2,.fix (.ar 8 .sc) s.av)]⟩)
  = some ⟨[.set 22 (.int .i64 ((t+1:Nat):Int)),.set 21 (.agg kA),.set 7 (.ptr 7 []),.set 6 (.ptr 6 []),.set 5 (.ptr 5 []),.set 4 (.ptr 4 []),.set 2 (.ptr 2 [])],
    [(7,.fix (.ar 4 .sc) (.agg [u32 (zgp v k x).e,u32 (zgp v k x).f,u32 (zgp v k x).g,u32 (zgp v k x).h])),(6,.fix (.ar 4 .sc) (.agg [u32 (zgp v k x).a,u32 (zgp v k x).b,u32 (zgp v k x).c,u32 (zgp v k x).d])),(5,.fix (.ar 64 .sc) (.agg (wsAV ws))),(4,.fix (.ar 8 .sc) z8),(2,.fix (.ar 8 .sc) s.av)]⟩:=by
 obtain⟨va,vb,vc,vd,ve,vf,vg,vh⟩:=v
 simp only[L47,m120,K47,z8,H8.av,go_sem,simprocAttr,↓Nat.reduceEqDiff,ht,hk,hx,z87,z89,zb7,hl,m1,m2,notc,zd0 (show t<2^62 by omega),zgp]
def K47b :List Kp:=[.slot 2,.slot 4,.slot 6,.slot 7,.slot 94,.key 2,.key 4,.key 6,.key 7]
def S47b (s v:H8)(i:Nat):St :=
 ⟨[.set 94 (.int .i64 i),.set 7 (.ptr 7 []),.set 6 (.ptr 6 []),.set 4 (.ptr 4 []),.set 2 (.ptr 2 [])],
  [(7,.fix (.ar 4 .sc) (.agg [u32 v.e,u32 v.f,u32 v.g,u32 v.h])),(6,.fix (.ar 4 .sc) (.agg [u32 v.a,u32 v.b,u32 v.c,u32 v.d])),(4,.fix (.ar 8 .sc) z8),(2,.fix (.ar 8 .sc) (zq6 s v i).av)]⟩
theorem qao (F:Ev.Cl)(s v:H8)(i:Nat)(hi:i<4):zba K47b (evC gl F L47b (S47b s v i))=some (S47b s v (i+1)):=by
 match i,hi with
 | 0,_=>simp only[L47b,m120,K47b,z8,S47b,H8.av,go_sem,simprocAttr,↓Nat.reduceEqDiff,zq6,wl1,wl4]
 | 1,_=>simp only[L47b,m120,K47b,z8,S47b,H8.av,go_sem,simprocAttr,↓Nat.reduceEqDiff,zq6,wl2,wl5]
 | 2,_=>simp only[L47b,m120,K47b,z8,S47b,H8.av,go_sem,simprocAttr,↓Nat.reduceEqDiff,zq6,wl3,wl6]
 | 3,_=>simp only[L47b,m120,K47b,z8,S47b,H8.av,go_sem,simprocAttr,↓Nat.reduceEqDiff,zq6,addH,wl4,wl7]
theorem z9l (F:Ev.Cl)(s v:H8):evC gl F L47b (S47b s v 4)=some (.exit 2,⟨.set 95 (.bool false)::(S47b s v 4).fr,(S47b s v 4).hp⟩):=by
 simp only[L47b,m120,z8,S47b,H8.av,go_sem,simprocAttr,↓Nat.reduceEqDiff,zq6]
def S47 (s:H8)(ws:Ws)(t:Nat):St :=
 ⟨[.set 22 (.int .i64 t),.set 21 (.agg kA),.set 7 (.ptr 7 []),.set 6 (.ptr 6 []),.set 5 (.ptr 5 []),.set 4 (.ptr 4 []),.set 2 (.ptr 2 [])],
  [(7,.fix (.ar 4 .sc) (.agg [u32 (zbx s ws t).e,u32 (zbx s ws t).f,u32 (zbx s ws t).g,u32 (zbx s ws t).h])),(6,.fix (.ar 4 .sc) (.agg [u32 (zbx s ws t).a,u32 (zbx s ws t).b,u32 (zbx s ws t).c,u32 (zbx s ws t).d])),(5,.fix (.ar 64 .sc) (.agg (wsAV ws))),
   (4,.fix (.ar 8 .sc) z8),(2,.fix (.ar 8 .sc) s.av)]⟩
theorem qh0 (F:Ev.Cl)(s:H8)(ws:Ws):evC gl F L47 (S47 s ws 64)=some (.exit 0,⟨.set 23 (.bool false)::(S47 s ws 64).fr,(S47 s ws 64).hp⟩):=by
 unfold S47
 generalize zbx s ws 64=v
 simp only[L47,m120,z8,H8.av,go_sem,simprocAttr,↓Nat.reduceEqDiff]
theorem qgv (F:Ev.Cl)(m1:∀x:BitVec 32,F 127 [u32 x,.int .i64 6,.int .i64 11,.int .i64 25] []=some (u32 (rr x 6^^^rr x 11^^^rr x 25),[],[]))(m2:∀x:BitVec 32,F 127 [u32 x,.int .i64 2,.int .i64 13,.int .i64 22] []=some (u32 (rr x 2^^^rr x 13^^^rr x 22),[],[]))
  (s:H8) (ws:Ws) (hl:ws.length=64) (st:St) (h0:zc2 K47 st=some (S47 s ws 0)):iter (evC gl F L47) K47 LF st=some (.exit 0,⟨.set 23 (.bool false)::(S47 s ws 64).fr,(S47 s ws 64).hp⟩):=by
 rw[zaj (S47 s ws) 64 (by unfold LF;omega) h0 (fun t ht=> ?_) (by rw[qh0];rfl),qh0]
 have:=qfd (gl:=gl) F m1 m2 s ws hl t ht (zbx s ws t) (kList.getD t 0) (ws.getD t 0) (z88 t ht) (zck (by omega))
 unfold S47
 rw[this,zbx]
theorem qci (F:Ev.Cl)(s v:H8)(st:St)(h0:zc2 K47b st=some (S47b s v 0)):iter (evC gl F L47b) K47b LF st=some (.exit 2,⟨.set 95 (.bool false)::(S47b s v 4).fr,(S47b s v 4).hp⟩):=by
 rw[zaj (S47b s v) 4 (by unfold LF;omega) h0 (fun i hi=>qao F s v i hi) (by rw[z9l];rfl),z9l]
theorem qig (F:Ev.Cl)(nb:Bool)(s:H8)(b:List UInt8)(ws:Ws)(hl:ws.length=64)(c51:F 126 [.lst nb .sc (zac b)] []=some (.agg (wsAV ws),[],[]))
  (m1:∀x:BitVec 32,F 127 [u32 x,.int .i64 6,.int .i64 11,.int .i64 25] []=some (u32 (rr x 6^^^rr x 11^^^rr x 25),[],[])) (m2:∀x:BitVec 32,F 127 [u32 x,.int .i64 2,.int .i64 13,.int .i64 22] []=some (u32 (rr x 2^^^rr x 13^^^rr x 22),[],[])) :
  finK fd120.res fd120.pk (evC gl F fd120.body {fr:=frOf 0 [s.av,.lst nb .sc (zac b)],hp:=[]})=some ((addH s (zbx s ws 64)).av,[],[]):=by
 have e:=qgv (gl:=gl) F m1 m2 s ws hl
 have e2:=qci (gl:=gl) F s (zbx s ws 64)
 simp only[L47,m120,K47]at e
 simp only[L47b,m120,K47b]at e2
 simp only[fd120,m120,H8.av,go_sem,simprocAttr,↓Nat.reduceEqDiff,c51,zb7,hl,zuk,glK]
 rw[e _ (by simp only[S47,z8,H8.av,go_sem,simprocAttr,↓Nat.reduceEqDiff,zbx])]
 unfold S47
 generalize zbx s ws 64=v at *
 simp only[z8,H8.av,go_sem,simprocAttr,↓Nat.reduceEqDiff]
 rw[e2 _ (by simp only[S47b,z8,H8.av,go_sem,simprocAttr,↓Nat.reduceEqDiff,zq6])]
 simp only[S47b,z8,H8.av,go_sem,simprocAttr,↓Nat.reduceEqDiff,zq6]
theorem qd1 (d:Nat)(nb:Bool)(s:H8)(b:List UInt8)(hb:b.length=64):call gl tab (d+3) 120 [s.av,.lst nb .sc (zac b)] []=some ((zm1 s b).av,[],[]) :=
 (zaf (n:=d+2) (fd:=fd120) rfl).trans (qig (call gl tab (d+2)) nb s b (zbn b 64) (za1 b 64) (z44 (by omega) nb hb) (mix1 d) (mix2 d))
end Go.Proofs.S97.H
