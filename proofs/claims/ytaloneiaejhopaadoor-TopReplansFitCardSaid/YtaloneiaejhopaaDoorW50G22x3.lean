/-
  The hash's parts: what they compute. No condition.
-/
import Derived.Test.YtaloneiaejhopaaDoorW50G21x3
set_option linter.all false
open List renaming getD_eq_getElem?_getD->wB,getElem?_eq_getElem->wC,length_set->wD,getElem?_map->wE,all_eq_true->wF,mem_map->wG
open BitVec renaming shiftLeft_add->wH
namespace Go.Proofs.S50.H
open Go Go.Ev Go.Proofs Go.Proofs.S50
variable {gl :Gl}
def rr (x:BitVec 32)(i:Nat):BitVec 32:=x<<<(32-i)|||x>>>i
theorem zx3 :∀i:Fin 32,BitVec.ofInt 64 (-(i.val:Int))&&&31#64=BitVec.ofNat 64 ((32-i.val)%32):=by decide +kernel
theorem qcc :∀i:Fin 32,(0<i.val->(32#64-BitVec.ofNat 64 ((32-i.val)%32)).toNat=i.val/\(BitVec.ofNat 64 ((32-i.val)%32)).toNat=32-i.val):=by decide +kernel
theorem zl0 (d:Nat)(x:BitVec 32)(i:Nat)(h0:0<i)(h:i<32):call gl tab (d+1) 101 [u32 x,.int .i64 (-(i:Int))] []=some (u32 (rr x i),[],[]):=by
 have h1:=zx3 ⟨i,h⟩
 have ⟨h2,h3⟩:=qcc ⟨i,h⟩ h0
 have h4:(32-i)%32=32-i:=Nat.mod_eq_of_lt (by omega)
 simp only[h4]at h1 h2 h3
 rw[zai (fd:=z8f) rfl]
 simp only[z8f,m101,go_sem,simprocAttr,↓Nat.reduceEqDiff,h1,h2,h3,rr]
theorem qc0 (i:Nat)(h:i<64):IntKind.wrap .i64 (0-(i:Int))=-(i:Int):=by rw[zbf (by omega) (by omega)];omega
theorem z92 (d:Nat)(x:BitVec 32)(i j k:Nat)(hi:0<i)(hi':i<32)(hj:0<j)(hj':j<32)(hk:0<k)(hk':k<32) :
  call gl tab (d+2) 100 [u32 x,.int .i64 (i:Int),.int .i64 (j:Int),.int .i64 (k:Int)] []=some (u32 (rr x i^^^rr x j^^^rr x k),[],[]):=by
 rw[zai (fd:=z8g) rfl]
 simp only[z8g,m100,go_sem,simprocAttr,↓Nat.reduceEqDiff,qc0 i (by omega),qc0 j (by omega),qc0 k (by omega),zl0 d x i hi hi',zl0 d x j hj hj',zl0 d x k hk hk']
abbrev Ws :=List (BitVec 32)
def wsAV (l:Ws):List AV:=l.map fun x=>u32 x
theorem zey (l:Ws):(wsAV l).length=l.length:=by simp[wsAV]
theorem zf8 {l:Ws}{i:Nat}(h:i<l.length):(wsAV l)[i]? =some (u32 (l.getD i 0)):=by
 rw[wsAV,wE,wC h,wB,wC h];rfl
theorem zo8 (l:Ws)(i:Nat)(x:BitVec 32):wsAV (l.set i x)=(wsAV l).set i (u32 x):=by simp[wsAV,List.map_set]
def bt (b:List UInt8)(i:Nat):BitVec 32:=((b.getD i 0).toBitVec).setWidth 32
def word (b:List UInt8)(t:Nat):BitVec 32:=bt b (4*t)<<<(24:Nat)|||bt b (4*t+1)<<<(16:Nat)|||bt b (4*t+2)<<<(8:Nat)|||bt b (4*t+3)
def qhs (l:Ws)(t:Nat):BitVec 32 :=
 l.getD (t-16) 0+(rr (l.getD (t-15) 0) 7^^^rr (l.getD (t-15) 0) 18^^^l.getD (t-15) 0>>>(3:Nat))+l.getD (t-7) 0+(rr (l.getD (t-2) 0) 17^^^rr (l.getD (t-2) 0) 19^^^l.getD (t-2) 0>>>(10:Nat))
def zdr (b:List UInt8):Nat->Ws
 | 0=>List.replicate 64 0
 | t+1=>(zdr b t).set t (if t<16 then word b t else qhs (zdr b t) t)
theorem zct (b:List UInt8)(t:Nat):(zdr b t).length=64:=by
 induction t with
 | zero=>simp[zdr]
 | succ t ih=>rw[zdr,wD,ih]
theorem rot7 (d:Nat)(x:BitVec 32):call gl tab (d+1) 101 [u32 x,.int .i64 (-7)] []=some (u32 (rr x 7),[],[]):=zl0 d x 7 (by omega) (by omega)
theorem qkn (d:Nat)(x:BitVec 32):call gl tab (d+1) 101 [u32 x,.int .i64 (-18)] []=some (u32 (rr x 18),[],[]):=zl0 d x 18 (by omega) (by omega)
theorem qko (d:Nat)(x:BitVec 32):call gl tab (d+1) 101 [u32 x,.int .i64 (-17)] []=some (u32 (rr x 17),[],[]):=zl0 d x 17 (by omega) (by omega)
theorem qkm (d:Nat)(x:BitVec 32):call gl tab (d+1) 101 [u32 x,.int .i64 (-19)] []=some (u32 (rr x 19),[],[]):=zl0 d x 19 (by omega) (by omega)
theorem z9k (l:Ws):(wsAV l).all AV.scalar=true:=by
 rw[wF];intro x hx
 obtain⟨y,_,rfl⟩:=wG.1 hx;rfl
theorem qg1 (b:List UInt8):AV.agg (wsAV (zdr b 0))= .agg (List.replicate 64 (.int .u32 0)):=rfl
def zer64 :AV:=.agg (List.replicate 64 (.int .u32 0))
theorem zhj :zer64.refs=[]:=by kernel_rfl
theorem zxw (b:List UInt8)(t:Nat):∀i,t<=i->(zdr b t).getD i 0=0:=by
 induction t with
 | zero=>intro i _;rw[zdr,wB,List.getElem?_replicate];split<;>rfl
 | succ t ih =>
   intro i hi
   rw[zdr,wB,List.getElem?_set_ne (by omega),<-wB]
   exact ih i (by omega)
def accW (b:List UInt8)(t:Nat):Nat->BitVec 32
 | 0=>0#32
 | j+1=>accW b t j<<<(8:Nat)|||bt b (4*t+j)
theorem znr (a b:BitVec 32)(n:Nat):(a|||b)<<<n=a<<<n|||b<<<n:=by
 apply BitVec.eq_of_getLsbD_eq;intro i hi
 simp only[BitVec.getLsbD_shiftLeft,BitVec.getLsbD_or]
 cases decide (i<n)<;>simp[hi]
theorem qka (b:List UInt8)(t:Nat):accW b t 4=word b t:=by
 simp only[accW,word,Nat.add_zero]
 rw[znr,znr,znr,znr,znr,znr,<-wH,<-wH,<-wH]
 simp
theorem zth {l:List UInt8}{i:Nat}(h:i<l.length):(zad l)[i]? =some (.int .u8 ((l.getD i 0).toBitVec.toNat:Int)):=by
 rw[zm9 h,wB,wC h];rfl
def S51 (nb:Bool)(b:List UInt8)(t:Nat):St :=
 ⟨[.set 11 (.int .i64 t),.set 3 (.ptr 3 []),.set 2 (.ptr 2 []),.set 0 (.lst nb .sc (zad b))],[(3,.fix (.ar 64 .sc) (.agg (wsAV (zdr b t)))),(2,.fix (.ar 64 .sc) zer64)]⟩
def blkW (b:List UInt8)(t:Nat):List AV:=List.drop (4*t) (List.take (4*t+4) (zad b))
theorem zxm {b:List UInt8}(hb:b.length=64){t:Nat}(ht:t<16):(blkW b t).length=4:=by
 rw[blkW,List.length_drop,List.length_take,zal,hb];omega
theorem z88 {b:List UInt8}(hb:b.length=64){t j:Nat}(ht:t<16)(hj:j<4):(blkW b t)[j]? =some (.int .u8 ((b.getD (4*t+j) 0).toBitVec.toNat:Int)):=by
 rw[blkW,List.getElem?_drop,List.getElem?_take_of_lt (by omega),zth (by omega)]
def S51b (nb:Bool)(b:List UInt8)(t j:Nat):St :=
 ⟨[.set 24 (.int .i64 j),.set 23 (.int .i64 4),.set 22 (.lst (nb&&4*t==60) .sc (blkW b t)),.set 11 (.int .i64 t),.set 4 (.int .i64 t),.set 3 (.ptr 3 []),.set 2 (.ptr 2 []),.set 0 (.lst nb .sc (zad b))],
  [(3,.fix (.ar 64 .sc) (.agg (wsAV ((zdr b t).set t (accW b t j))))),(2,.fix (.ar 64 .sc) zer64)]⟩
theorem set_self (l:Ws)(i:Nat)(h:l.getD i 0=0):l.set i 0#32=l:=by
 apply List.ext_getElem?
 intro j
 rw[List.getElem?_set]
 split
 . rename_i e;subst e
   split
   . rename_i hl
     rw[wB,wC hl]at h
     rw[wC hl];congr 1;exact h.symm
   . rename_i hl;rw[List.getElem?_eq_none (by omega)]
 . rfl
theorem qb5 (l:Ws)(t:Nat)(x:BitVec 32)(h:t<l.length):(l.set t x).getD t 0=x:=by
 rw[wB,List.getElem?_set_self h];rfl
theorem z54 (d:Nat)(nb:Bool)(b:List UInt8)(hb:b.length=64):call gl tab (d+2) 99 [.lst nb .sc (zad b)] []=some (.agg (wsAV (zdr b 64)),[],[]):=by
 have hz:AV.agg (List.replicate 64 (.int .u32 0))=zer64:=rfl
 rw[zai (fd:=fd99) rfl]
 simp only[fd99,m99,hz,go_sem,simprocAttr,↓Nat.reduceEqDiff]
 rw[zak (S51 nb b) 64 (by unfold LF;omega)]
 . simp only[S51,go_sem,simprocAttr,↓Nat.reduceEqDiff,zey,zct,z9k]
 . simp only[S51,qg1,zer64,go_sem,simprocAttr,↓Nat.reduceEqDiff]
 . intro t ht
   by_cases h16:t<16
   . have hw1:IntKind.wrap .i64 (4*(t:Int))=((4*t:Nat):Int):=by rw[zbf (by omega) (by omega)];omega
     have hw2:IntKind.wrap .i64 (((4*t:Nat):Int)+4)=((4*t+4:Nat):Int):=by rw[zbf (by omega) (by omega)];omega
     have hle:4*t+4<=64:=by omega
     have hsub:4*t+4-4*t=4:=by omega
     have hbl:List.drop (4*t) (List.take (4*t+4) (zad b))=blkW b t:=rfl
     simp only[S51,go_sem,simprocAttr,↓Nat.reduceEqDiff,ht,h16,hw1,hw2,zal,hb,hle,Nat.le_add_right,hsub,hbl,zxm hb h16]
     rw[zak (S51b nb b t) 4 (by unfold LF;omega)]
     . simp only[S51b,go_sem,simprocAttr,↓Nat.reduceEqDiff,zhj,qka,zfo (show t<2^62 by omega),zdr,h16]
     . have h0:(zdr b t).set t (accW b t 0)=zdr b t:=set_self _ _ (zxw b t t (by omega))
       simp only[S51b,go_sem,simprocAttr,↓Nat.reduceEqDiff,zhj,h0,Bool.and_false]
     . intro j hj
       have gt:=zf8 (l:=(zdr b t).set t (accW b t j)) (i:=t) (by rw[wD,zct];omega)
       rw[qb5 _ _ _ (by rw[zct];omega),zo8]at gt
       have hss:(zdr b t).set t (accW b t (j+1))=((zdr b t).set t (accW b t j)).set t (accW b t (j+1)):=by rw[List.set_set]
       rw[show S51b nb b t (j+1)=⟨(S51b nb b t (j+1)).fr,[(3,.fix (.ar 64 .sc) (.agg (wsAV (((zdr b t).set t (accW b t j)).set t (accW b t (j+1)))))),(2,.fix (.ar 64 .sc) zer64)]⟩ by rw[<-hss];rfl]
       simp only[S51b,go_sem,simprocAttr,↓Nat.reduceEqDiff,zhj,hj,ht,zxm hb h16,z88 hb h16 hj,gt,zo8,wD,zey,zct,accW,bt,zfo (show j<2^62 by omega)]
     . simp only[S51b,go_sem,simprocAttr,↓Nat.reduceEqDiff]
   . have h15:IntKind.wrap .i64 ((t:Int)-15)=((t-15:Nat):Int):=by rw[zbf (by omega) (by omega)];omega
     have h2:IntKind.wrap .i64 ((t:Int)-2)=((t-2:Nat):Int):=by rw[zbf (by omega) (by omega)];omega
     have h7:IntKind.wrap .i64 ((t:Int)-7)=((t-7:Nat):Int):=by rw[zbf (by omega) (by omega)];omega
     have h6:IntKind.wrap .i64 ((t:Int)-16)=((t-16:Nat):Int):=by rw[zbf (by omega) (by omega)];omega
     have g15:=zf8 (l:=zdr b t) (i:=t-15) (by rw[zct];omega)
     have g2:=zf8 (l:=zdr b t) (i:=t-2) (by rw[zct];omega)
     have g7:=zf8 (l:=zdr b t) (i:=t-7) (by rw[zct];omega)
     have g6:=zf8 (l:=zdr b t) (i:=t-16) (by rw[zct];omega)
     have gt:=zf8 (l:=zdr b t) (i:=t) (by rw[zct];omega)
     simp only[S51,go_sem,simprocAttr,↓Nat.reduceEqDiff,zhj,gt,ht,h16,h15,h2,h7,h6,g15,g2,g7,g6,zey,zct,show t-15<64 by omega,show t-2<64 by omega,show t-7<64 by omega,show t-16<64 by omega,rot7,qkn,qko,qkm,zfo (show t<2^62 by omega),zdr,zo8,qhs]
 . simp only[S51,go_sem,simprocAttr,↓Nat.reduceEqDiff]
end Go.Proofs.S50.H
namespace Go.Proofs.S50.H
open Go Go.Ev Go.Proofs Go.Proofs.S50
variable {gl :Gl} [Nonempty (GlK gl)]
structure H8 where
 a:BitVec 32
 b:BitVec 32
 c:BitVec 32
 d:BitVec 32
 e:BitVec 32
 f:BitVec 32
 g:BitVec 32
 h:BitVec 32
def H8.av (s:H8):AV:=.agg [u32 s.a,u32 s.b,u32 s.c,u32 s.d,u32 s.e,u32 s.f,u32 s.g,u32 s.h]
def zh3 (s:H8)(k wt:BitVec 32):H8 :=
 let x:=s.h+(rr s.e 6^^^rr s.e 11^^^rr s.e 25)+(s.e&&&s.f^^^ ~~~ s.e&&&s.g)+k+wt
 let y:=rr s.a 2^^^rr s.a 13^^^rr s.a 22
 ⟨x+(y+(s.a&&&s.b^^^s.a&&&s.c^^^s.b&&&s.c)),s.a,s.b,s.c,s.d+x,s.e,s.f,s.g⟩
def zcu (s:H8)(ws:Ws):Nat->H8
 | 0=>s
 | t+1=>zh3 (zcu s ws t) (kList.getD t 0) (ws.getD t 0)
def addH (s v:H8):H8:=⟨s.a+v.a,s.b+v.b,s.c+v.c,s.d+v.d,s.e+v.e,s.f+v.f,s.g+v.g,s.h+v.h⟩
def ztc (s:H8)(b:List UInt8):H8:=addH s (zcu s (zdr b 64) 64)
theorem z55 {n:Nat}(h:2<=n)(nb:Bool){b:List UInt8}(hb:b.length=64):call gl tab n 99 [.lst nb .sc (zad b)] []=some (.agg (wsAV (zdr b 64)),[],[]):=by
 obtain⟨d,rfl⟩:=Nat.exists_eq_add_of_le' h
 exact z54 d nb b hb
theorem mix1 (d:Nat)(x:BitVec 32):call gl tab (d+2) 100 [u32 x,.int .i64 6,.int .i64 11,.int .i64 25] []=some (u32 (rr x 6^^^rr x 11^^^rr x 25),[],[]) :=
 z92 d x 6 11 25 (by omega) (by omega) (by omega) (by omega) (by omega) (by omega)
theorem mix2 (d:Nat)(x:BitVec 32):call gl tab (d+2) 100 [u32 x,.int .i64 2,.int .i64 13,.int .i64 22] []=some (u32 (rr x 2^^^rr x 13^^^rr x 22),[],[]) :=
 z92 d x 2 13 22 (by omega) (by omega) (by omega) (by omega) (by omega) (by omega)
theorem qh9 (n:Nat)(h:n<64):kA[n]? =some (u32 (kList.getD n 0)):=by
 unfold kA
 rw[wE,wB,wC (by simpa[kList]using h)];rfl
theorem qh8 :kA.length=64:=rfl
theorem qia :kA.all AV.scalar=true:=by
 rw[wF];intro x hx
 obtain⟨y,_,rfl⟩:=wG.1 hx;rfl
def zsa (s v:H8):Nat->H8
 | 0=>s
 | 1=>⟨s.a+v.a,s.b,s.c,s.d,s.e+v.e,s.f,s.g,s.h⟩
 | 2=>⟨s.a+v.a,s.b+v.b,s.c,s.d,s.e+v.e,s.f+v.f,s.g,s.h⟩
 | 3=>⟨s.a+v.a,s.b+v.b,s.c+v.c,s.d,s.e+v.e,s.f+v.f,s.g+v.g,s.h⟩
 | _+4=>addH s v
theorem wl1 :IntKind.wrap .i64 1=1:=by decide
theorem wl2 :IntKind.wrap .i64 2=2:=by decide
theorem wl3 :IntKind.wrap .i64 3=3:=by decide
theorem wl4 :IntKind.wrap .i64 4=4:=by decide
theorem wl5 :IntKind.wrap .i64 5=5:=by decide
theorem wl6 :IntKind.wrap .i64 6=6:=by decide
theorem wl7 :IntKind.wrap .i64 7=7:=by decide
theorem notc (x:BitVec 32):@HXor.hXor (BitVec 32) (BitVec 32) (BitVec 32) (@instHXorOfXorOp (BitVec (IntKind.bits .u32)) (@BitVec.instXorOp (IntKind.bits .u32))) (BitVec.ofInt 32 (if IntKind.u32.signed=true then -1 else IntKind.u32.max)) x= ~~~ x:=by
 have:BitVec.ofInt 32 (if IntKind.u32.signed=true then -1 else IntKind.u32.max)=BitVec.allOnes 32:=by decide
 show BitVec.ofInt 32 (if IntKind.u32.signed=true then -1 else IntKind.u32.max)^^^x= ~~~ x
 rw[this,BitVec.allOnes_xor]
abbrev z8 :AV:=.agg [.int .u32 0,.int .u32 0,.int .u32 0,.int .u32 0,.int .u32 0,.int .u32 0,.int .u32 0,.int .u32 0]
def L47 :MC:=match m94 with
 | .seq _ (.seq _ (.seq _ (.seq (.seq _ (.block _ (.loop _ b))) _)))=>b
 | _=>.skip
def L47b :MC:=match m94 with
 | .seq _ (.seq _ (.seq _ (.seq _ (.seq (.seq _ (.block _ (.loop _ b))) _))))=>b
 | _=>.skip
def K47 :List Kp:=[.slot 2,.slot 4,.slot 5,.slot 6,.slot 7,.slot 21,.slot 22,.key 2,.key 4,.key 5,.key 6,.key 7]
theorem qgd (F:Ev.Cl)(m1:∀x:BitVec 32,F 100 [u32 x,.int .i64 6,.int .i64 11,.int .i64 25] []=some (u32 (rr x 6^^^rr x 11^^^rr x 25),[],[]))(m2:∀x:BitVec 32,F 100 [u32 x,.int .i64 2,.int .i64 13,.int .i64 22] []=some (u32 (rr x 2^^^rr x 13^^^rr x 22),[],[]))(s:H8)(ws:Ws)(hl:ws.length=64)(t:Nat)(ht:t<64)(v:H8)(k x:BitVec 32)(hk:kA[t]? =some (u32 k))(hx:(wsAV ws)[t]? =some (u32 x)) :
  zaz K47 (evC gl F L47 ⟨[.set 22 (.int .i64 t),.set 21 (.agg kA),.set 7 (.ptr 7 []),.set 6 (.ptr 6 []),.set 5 (.ptr 5 []),.set 4 (.ptr 4 []),.set 2 (.ptr 2 [])],
   [(7,.fix (.ar 4 .sc) (.agg [u32 v.e,u32 v.f,u32 v.g,u32 v.h])),(6,.fix (.ar 4 .sc) (.agg [u32 v.a,u32 v.b,u32 v.c,u32 v.d])),(5,.fix (.ar 64 .sc) (.agg (wsAV ws))),(4,.fix (.ar 8 .sc) z8),(2,.fix (.ar 8 .sc) s.av)]⟩)
  = some ⟨[.set 22 (.int .i64 ((t+1:Nat):Int)),.set 21 (.agg kA),.set 7 (.ptr 7 []),.set 6 (.ptr 6 []),.set 5 (.ptr 5 []),.set 4 (.ptr 4 []),.set 2 (.ptr 2 [])],
    [(7,.fix (.ar 4 .sc) (.agg [u32 (zh3 v k x).e,u32 (zh3 v k x).f,u32 (zh3 v k x).g,u32 (zh3 v k x).h])),(6,.fix (.ar 4 .sc) (.agg [u32 (zh3 v k x).a,u32 (zh3 v k x).b,u32 (zh3 v k x).c,u32 (zh3 v k x).d])),(5,.fix (.ar 64 .sc) (.agg (wsAV ws))),(4,.fix (.ar 8 .sc) z8),(2,.fix (.ar 8 .sc) s.av)]⟩:=by
 obtain⟨va,vb,vc,vd,ve,vf,vg,vh⟩:=v
 simp only[L47,m94,K47,z8,H8.av,go_sem,simprocAttr,↓Nat.reduceEqDiff,ht,hk,hx,qh8,qia,zey,hl,m1,m2,notc,zfo (show t<2^62 by omega),zh3]
def K47b :List Kp:=[.slot 2,.slot 4,.slot 6,.slot 7,.slot 94,.key 2,.key 4,.key 6,.key 7]
def S47b (s v:H8)(i:Nat):St :=
 ⟨[.set 94 (.int .i64 i),.set 7 (.ptr 7 []),.set 6 (.ptr 6 []),.set 4 (.ptr 4 []),.set 2 (.ptr 2 [])],
  [(7,.fix (.ar 4 .sc) (.agg [u32 v.e,u32 v.f,u32 v.g,u32 v.h])),(6,.fix (.ar 4 .sc) (.agg [u32 v.a,u32 v.b,u32 v.c,u32 v.d])),(4,.fix (.ar 8 .sc) z8),(2,.fix (.ar 8 .sc) (zsa s v i).av)]⟩
theorem qbc (F:Ev.Cl)(s v:H8)(i:Nat)(hi:i<4):zaz K47b (evC gl F L47b (S47b s v i))=some (S47b s v (i+1)):=by
 match i,hi with
 | 0,_=>simp only[L47b,m94,K47b,z8,S47b,H8.av,go_sem,simprocAttr,↓Nat.reduceEqDiff,zsa,wl1,wl4]
 | 1,_=>simp only[L47b,m94,K47b,z8,S47b,H8.av,go_sem,simprocAttr,↓Nat.reduceEqDiff,zsa,wl2,wl5]
 | 2,_=>simp only[L47b,m94,K47b,z8,S47b,H8.av,go_sem,simprocAttr,↓Nat.reduceEqDiff,zsa,wl3,wl6]
 | 3,_=>simp only[L47b,m94,K47b,z8,S47b,H8.av,go_sem,simprocAttr,↓Nat.reduceEqDiff,zsa,addH,wl4,wl7]
theorem qaf (F:Ev.Cl)(s v:H8):evC gl F L47b (S47b s v 4)=some (.exit 2,⟨.set 95 (.bool false)::(S47b s v 4).fr,(S47b s v 4).hp⟩):=by
 simp only[L47b,m94,z8,S47b,H8.av,go_sem,simprocAttr,↓Nat.reduceEqDiff,zsa]
def S47 (s:H8)(ws:Ws)(t:Nat):St :=
 ⟨[.set 22 (.int .i64 t),.set 21 (.agg kA),.set 7 (.ptr 7 []),.set 6 (.ptr 6 []),.set 5 (.ptr 5 []),.set 4 (.ptr 4 []),.set 2 (.ptr 2 [])],
  [(7,.fix (.ar 4 .sc) (.agg [u32 (zcu s ws t).e,u32 (zcu s ws t).f,u32 (zcu s ws t).g,u32 (zcu s ws t).h])),(6,.fix (.ar 4 .sc) (.agg [u32 (zcu s ws t).a,u32 (zcu s ws t).b,u32 (zcu s ws t).c,u32 (zcu s ws t).d])),(5,.fix (.ar 64 .sc) (.agg (wsAV ws))),
   (4,.fix (.ar 8 .sc) z8),(2,.fix (.ar 8 .sc) s.av)]⟩
theorem qi9 (F:Ev.Cl)(s:H8)(ws:Ws):evC gl F L47 (S47 s ws 64)=some (.exit 0,⟨.set 23 (.bool false)::(S47 s ws 64).fr,(S47 s ws 64).hp⟩):=by
 unfold S47
 generalize zcu s ws 64=v
 simp only[L47,m94,z8,H8.av,go_sem,simprocAttr,↓Nat.reduceEqDiff]
theorem qhz (F:Ev.Cl)(m1:∀x:BitVec 32,F 100 [u32 x,.int .i64 6,.int .i64 11,.int .i64 25] []=some (u32 (rr x 6^^^rr x 11^^^rr x 25),[],[]))(m2:∀x:BitVec 32,F 100 [u32 x,.int .i64 2,.int .i64 13,.int .i64 22] []=some (u32 (rr x 2^^^rr x 13^^^rr x 22),[],[]))
  (s:H8) (ws:Ws) (hl:ws.length=64) (st:St) (h0:zcr K47 st=some (S47 s ws 0)):iter (evC gl F L47) K47 LF st=some (.exit 0,⟨.set 23 (.bool false)::(S47 s ws 64).fr,(S47 s ws 64).hp⟩):=by
 rw[zak (S47 s ws) 64 (by unfold LF;omega) h0 (fun t ht=> ?_) (by rw[qi9];rfl),qi9]
 have:=qgd (gl:=gl) F m1 m2 s ws hl t ht (zcu s ws t) (kList.getD t 0) (ws.getD t 0) (qh9 t ht) (zf8 (by omega))
 unfold S47
 rw[this,zcu]
theorem qc7 (F:Ev.Cl)(s v:H8)(st:St)(h0:zcr K47b st=some (S47b s v 0)):iter (evC gl F L47b) K47b LF st=some (.exit 2,⟨.set 95 (.bool false)::(S47b s v 4).fr,(S47b s v 4).hp⟩):=by
 rw[zak (S47b s v) 4 (by unfold LF;omega) h0 (fun i hi=>qbc F s v i hi) (by rw[qaf];rfl),qaf]
theorem qjn (F:Ev.Cl)(nb:Bool)(s:H8)(b:List UInt8)(ws:Ws)(hl:ws.length=64)(c51:F 99 [.lst nb .sc (zad b)] []=some (.agg (wsAV ws),[],[]))
  (m1:∀x:BitVec 32,F 100 [u32 x,.int .i64 6,.int .i64 11,.int .i64 25] []=some (u32 (rr x 6^^^rr x 11^^^rr x 25),[],[])) (m2:∀x:BitVec 32,F 100 [u32 x,.int .i64 2,.int .i64 13,.int .i64 22] []=some (u32 (rr x 2^^^rr x 13^^^rr x 22),[],[])) :
  finK fd94.res fd94.pk (evC gl F fd94.body {fr:=frOf 0 [s.av,.lst nb .sc (zad b)],hp:=[]})=some ((addH s (zcu s ws 64)).av,[],[]):=by
 have e:=qhz (gl:=gl) F m1 m2 s ws hl
 have e2:=qc7 (gl:=gl) F s (zcu s ws 64)
 simp only[L47,m94,K47]at e
 simp only[L47b,m94,K47b]at e2
 simp only[fd94,m94,H8.av,go_sem,simprocAttr,↓Nat.reduceEqDiff,c51,zey,hl,z9k,glK]
 rw[e _ (by simp only[S47,z8,H8.av,go_sem,simprocAttr,↓Nat.reduceEqDiff,zcu])]
 unfold S47
 generalize zcu s ws 64=v at *
 simp only[z8,H8.av,go_sem,simprocAttr,↓Nat.reduceEqDiff]
 rw[e2 _ (by simp only[S47b,z8,H8.av,go_sem,simprocAttr,↓Nat.reduceEqDiff,zsa])]
 simp only[S47b,z8,H8.av,go_sem,simprocAttr,↓Nat.reduceEqDiff,zsa]
theorem qeq (d:Nat)(nb:Bool)(s:H8)(b:List UInt8)(hb:b.length=64):call gl tab (d+3) 94 [s.av,.lst nb .sc (zad b)] []=some ((ztc s b).av,[],[]) :=
 (zai (n:=d+2) (fd:=fd94) rfl).trans (qjn (call gl tab (d+2)) nb s b (zdr b 64) (zct b 64) (z55 (by omega) nb hb) (mix1 d) (mix2 d))
end Go.Proofs.S50.H
