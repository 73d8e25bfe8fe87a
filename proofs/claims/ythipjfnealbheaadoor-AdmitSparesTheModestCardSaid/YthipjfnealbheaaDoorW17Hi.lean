/-
  The hash's compression: what it computes. No condition.
-/
import Derived.Test.YthipjfnealbheaaDoorW17G6x4
set_option linter.all false
namespace Go.Proofs.S17.H
open Go Go.Ev Go.Proofs Go.Proofs.S17
variable {gl :Gl} [Nonempty (GlK gl)]
structure H8 where
 a:BitVec 32
 b:BitVec 32
 c:BitVec 32
 d:BitVec 32
 e:BitVec 32
 f:BitVec 32
 g:BitVec 32
 h:BitVec 32
def H8.av (s:H8):AV:=.agg [u32 s.a,u32 s.b,u32 s.c,u32 s.d,u32 s.e,u32 s.f,u32 s.g,u32 s.h]
def zhk (s:H8)(k wt:BitVec 32):H8 :=
 let x:=s.h+(rr s.e 6^^^rr s.e 11^^^rr s.e 25)+(s.e&&&s.f^^^ ~~~ s.e&&&s.g)+k+wt
 let y:=rr s.a 2^^^rr s.a 13^^^rr s.a 22
 ⟨x+(y+(s.a&&&s.b^^^s.a&&&s.c^^^s.b&&&s.c)),s.a,s.b,s.c,s.d+x,s.e,s.f,s.g⟩
def zck (s:H8)(ws:Ws):Nat->H8
 | 0=>s
 | t+1=>zhk (zck s ws t) (kList.getD t 0) (ws.getD t 0)
def addH (s v:H8):H8:=⟨s.a+v.a,s.b+v.b,s.c+v.c,s.d+v.d,s.e+v.e,s.f+v.f,s.g+v.g,s.h+v.h⟩
def zre (s:H8)(b:List UInt8):H8:=addH s (zck s (zc6 b 64) 64)
theorem z3u {n:Nat}(h:2<=n)(nb:Bool){b:List UInt8}(hb:b.length=64):call gl tab n 95 [.lst nb .sc (zad b)] []=some (.agg (wsAV (zc6 b 64)),[],[]):=by
 obtain⟨d,rfl⟩:=Nat.exists_eq_add_of_le' h
 exact z3t d nb b hb
theorem mix1 (d:Nat)(x:BitVec 32):call gl tab (d+2) 96 [u32 x,.int .i64 6,.int .i64 11,.int .i64 25] []=some (u32 (rr x 6^^^rr x 11^^^rr x 25),[],[]) :=
 z7b d x 6 11 25 (by omega) (by omega) (by omega) (by omega) (by omega) (by omega)
theorem mix2 (d:Nat)(x:BitVec 32):call gl tab (d+2) 96 [u32 x,.int .i64 2,.int .i64 13,.int .i64 22] []=some (u32 (rr x 2^^^rr x 13^^^rr x 22),[],[]) :=
 z7b d x 2 13 22 (by omega) (by omega) (by omega) (by omega) (by omega) (by omega)
theorem qe0 (n:Nat)(h:n<64):kA[n]? =some (u32 (kList.getD n 0)):=by
 unfold kA
 rw[List.getElem?_map,List.getD_eq_getElem?_getD,List.getElem?_eq_getElem (by simpa[kList]using h)];rfl
theorem qez :kA.length=64:=rfl
theorem qe1 :kA.all AV.scalar=true:=by
 rw[List.all_eq_true];intro x hx
 obtain⟨y,_,rfl⟩:=List.mem_map.1 hx;rfl
def zqk (s v:H8):Nat->H8
 | 0=>s
 | 1=>⟨s.a+v.a,s.b,s.c,s.d,s.e+v.e,s.f,s.g,s.h⟩
 | 2=>⟨s.a+v.a,s.b+v.b,s.c,s.d,s.e+v.e,s.f+v.f,s.g,s.h⟩
 | 3=>⟨s.a+v.a,s.b+v.b,s.c+v.c,s.d,s.e+v.e,s.f+v.f,s.g+v.g,s.h⟩
 | _+4=>addH s v
theorem wl1 :IntKind.wrap .i64 1=1:=by decide
theorem wl2 :IntKind.wrap .i64 2=2:=by decide
theorem wl3 :IntKind.wrap .i64 3=3:=by decide
theorem wl4 :IntKind.wrap .i64 4=4:=by decide
theorem wl5 :IntKind.wrap .i64 5=5:=by decide
theorem wl6 :IntKind.wrap .i64 6=6:=by decide
theorem wl7 :IntKind.wrap .i64 7=7:=by decide
theorem notc (x:BitVec 32):@HXor.hXor (BitVec 32) (BitVec 32) (BitVec 32) (@instHXorOfXorOp (BitVec (IntKind.bits .u32)) (@BitVec.instXorOp (IntKind.bits .u32))) (BitVec.ofInt 32 (if IntKind.u32.signed=true then -1 else IntKind.u32.max)) x= ~~~ x:=by
 have:BitVec.ofInt 32 (if IntKind.u32.signed=true then -1 else IntKind.u32.max)=BitVec.allOnes 32:=by decide
 show BitVec.ofInt 32 (if IntKind.u32.signed=true then -1 else IntKind.u32.max)^^^x= ~~~ x
 rw[this,BitVec.allOnes_xor]
abbrev z8 :AV:=.agg [.int .u32 0,.int .u32 0,.int .u32 0,.int .u32 0,.int .u32 0,.int .u32 0,.int .u32 0,.int .u32 0]
def L47 :MC:=match m93 with
 | .seq _ (.seq _ (.seq _ (.seq (.seq _ (.block _ (.loop _ b))) _)))=>b
 | _=>.skip
def L47b :MC:=match m93 with
 | .seq _ (.seq _ (.seq _ (.seq _ (.seq (.seq _ (.block _ (.loop _ b))) _))))=>b
 | _=>.skip
def K47 :List Kp:=[.slot 2,.slot 4,.slot 5,.slot 6,.slot 7,.slot 21,.slot 22,.key 2,.key 4,.key 5,.key 6,.key 7]
theorem qdh (F:Ev.Cl)(m1:∀x:BitVec 32,F 96 [u32 x,.int .i64 6,.int .i64 11,.int .i64 25] []=some (u32 (rr x 6^^^rr x 11^^^rr x 25),[],[]))(m2:∀x:BitVec 32,F 96 [u32 x,.int .i64 2,.int .i64 13,.int .i64 22] []=some (u32 (rr x 2^^^rr x 13^^^rr x 22),[],[]))(s:H8)(ws:Ws)(hl:ws.length=64)(t:Nat)(ht:t<64)(v:H8)(k x:BitVec 32)(hk:kA[t]? =some (u32 k))(hx:(wsAV ws)[t]? =some (u32 x)) :
  zbn K47 (evC gl F L47 ⟨[.set 22 (.int .i64 t),.set 21 (.agg kA),.set 7 (.ptr 7 []),.set 6 (.ptr 6 []),.set 5 (.ptr 5 []),.set 4 (.ptr 4 []),.set 2 (.ptr 2 [])],
   [(7,.fix (.ar 4 .sc) (.agg [u32 v.e,u32 v.f,u32 v.g,u32 v.h])),(6,.fix (.ar 4 .sc) (.agg [u32 v.a,u32 v.b,u32 v.c,u32 v.d])),(5,.fix (.ar 64 .sc) (.agg (wsAV ws))),(4,.fix (.ar 8 .sc) z8),(2,.fix (.ar 8 .sc) s.av)]⟩)
  = some ⟨[.set 22 (.int .i64 ((t+1:Nat):Int)),.set 21 (.agg kA),.set 7 (.ptr 7 []),.set 6 (.ptr 6 []),.set 5 (.ptr 5 []),.set 4 (.ptr 4 []),.set 2 (.ptr 2 [])],
    [(7,.fix (.ar 4 .sc) (.agg [u32 (zhk v k x).e,u32 (zhk v k x).f,u32 (zhk v k x).g,u32 (zhk v k x).h])),(6,.fix (.ar 4 .sc) (.agg [u32 (zhk v k x).a,u32 (zhk v k x).b,u32 (zhk v k x).c,u32 (zhk v k x).d])),(5,.fix (.ar 64 .sc) (.agg (wsAV ws))),(4,.fix (.ar 8 .sc) z8),(2,.fix (.ar 8 .sc) s.av)]⟩:=by
 obtain⟨va,vb,vc,vd,ve,vf,vg,vh⟩:=v
 simp only[L47,m93,K47,z8,H8.av,go_sem,simprocAttr,↓Nat.reduceEqDiff,ht,hk,hx,qez,qe1,zec,hl,m1,m2,notc,ze8 (show t<2^62 by omega),zhk]
def K47b :List Kp:=[.slot 2,.slot 4,.slot 6,.slot 7,.slot 94,.key 2,.key 4,.key 6,.key 7]
def S47b (s v:H8)(i:Nat):St :=
 ⟨[.set 94 (.int .i64 i),.set 7 (.ptr 7 []),.set 6 (.ptr 6 []),.set 4 (.ptr 4 []),.set 2 (.ptr 2 [])],
  [(7,.fix (.ar 4 .sc) (.agg [u32 v.e,u32 v.f,u32 v.g,u32 v.h])),(6,.fix (.ar 4 .sc) (.agg [u32 v.a,u32 v.b,u32 v.c,u32 v.d])),(4,.fix (.ar 8 .sc) z8),(2,.fix (.ar 8 .sc) (zqk s v i).av)]⟩
theorem z8x (F:Ev.Cl)(s v:H8)(i:Nat)(hi:i<4):zbn K47b (evC gl F L47b (S47b s v i))=some (S47b s v (i+1)):=by
 match i,hi with
 | 0,_=>simp only[L47b,m93,K47b,z8,S47b,H8.av,go_sem,simprocAttr,↓Nat.reduceEqDiff,zqk,wl1,wl4]
 | 1,_=>simp only[L47b,m93,K47b,z8,S47b,H8.av,go_sem,simprocAttr,↓Nat.reduceEqDiff,zqk,wl2,wl5]
 | 2,_=>simp only[L47b,m93,K47b,z8,S47b,H8.av,go_sem,simprocAttr,↓Nat.reduceEqDiff,zqk,wl3,wl6]
 | 3,_=>simp only[L47b,m93,K47b,z8,S47b,H8.av,go_sem,simprocAttr,↓Nat.reduceEqDiff,zqk,addH,wl4,wl7]
theorem z7q (F:Ev.Cl)(s v:H8):evC gl F L47b (S47b s v 4)=some (.exit 2,⟨.set 95 (.bool false)::(S47b s v 4).fr,(S47b s v 4).hp⟩):=by
 simp only[L47b,m93,z8,S47b,H8.av,go_sem,simprocAttr,↓Nat.reduceEqDiff,zqk]
def S47 (s:H8)(ws:Ws)(t:Nat):St :=
 ⟨[.set 22 (.int .i64 t),.set 21 (.agg kA),.set 7 (.ptr 7 []),.set 6 (.ptr 6 []),.set 5 (.ptr 5 []),.set 4 (.ptr 4 []),.set 2 (.ptr 2 [])],
  [(7,.fix (.ar 4 .sc) (.agg [u32 (zck s ws t).e,u32 (zck s ws t).f,u32 (zck s ws t).g,u32 (zck s ws t).h])),(6,.fix (.ar 4 .sc) (.agg [u32 (zck s ws t).a,u32 (zck s ws t).b,u32 (zck s ws t).c,u32 (zck s ws t).d])),(5,.fix (.ar 64 .sc) (.agg (wsAV ws))),
   (4,.fix (.ar 8 .sc) z8),(2,.fix (.ar 8 .sc) s.av)]⟩
theorem qfw (F:Ev.Cl)(s:H8)(ws:Ws):evC gl F L47 (S47 s ws 64)=some (.exit 0,⟨.set 23 (.bool false)::(S47 s ws 64).fr,(S47 s ws 64).hp⟩):=by
 unfold S47
 generalize zck s ws 64=v
 simp only[L47,m93,z8,H8.av,go_sem,simprocAttr,↓Nat.reduceEqDiff]
theorem qeo (F:Ev.Cl)(m1:∀x:BitVec 32,F 96 [u32 x,.int .i64 6,.int .i64 11,.int .i64 25] []=some (u32 (rr x 6^^^rr x 11^^^rr x 25),[],[]))(m2:∀x:BitVec 32,F 96 [u32 x,.int .i64 2,.int .i64 13,.int .i64 22] []=some (u32 (rr x 2^^^rr x 13^^^rr x 22),[],[]))
  (s:H8) (ws:Ws) (hl:ws.length=64) (st:St) (h0:zdf K47 st=some (S47 s ws 0)):iter (evC gl F L47) K47 LF st=some (.exit 0,⟨.set 23 (.bool false)::(S47 s ws 64).fr,(S47 s ws 64).hp⟩):=by
 rw[zam (S47 s ws) 64 (by unfold LF;omega) h0 (fun t ht=> ?_) (by rw[qfw];rfl),qfw]
 have:=qdh (gl:=gl) F m1 m2 s ws hl t ht (zck s ws t) (kList.getD t 0) (ws.getD t 0) (qe0 t ht) (zfu (by omega))
 unfold S47
 rw[this,zck]
theorem qah (F:Ev.Cl)(s v:H8)(st:St)(h0:zdf K47b st=some (S47b s v 0)):iter (evC gl F L47b) K47b LF st=some (.exit 2,⟨.set 95 (.bool false)::(S47b s v 4).fr,(S47b s v 4).hp⟩):=by
 rw[zam (S47b s v) 4 (by unfold LF;omega) h0 (fun i hi=>z8x F s v i hi) (by rw[z7q];rfl),z7q]
theorem qga (F:Ev.Cl)(nb:Bool)(s:H8)(b:List UInt8)(ws:Ws)(hl:ws.length=64)(c51:F 95 [.lst nb .sc (zad b)] []=some (.agg (wsAV ws),[],[]))
  (m1:∀x:BitVec 32,F 96 [u32 x,.int .i64 6,.int .i64 11,.int .i64 25] []=some (u32 (rr x 6^^^rr x 11^^^rr x 25),[],[])) (m2:∀x:BitVec 32,F 96 [u32 x,.int .i64 2,.int .i64 13,.int .i64 22] []=some (u32 (rr x 2^^^rr x 13^^^rr x 22),[],[])) :
  finK fd93.res fd93.pk (evC gl F fd93.body {fr:=frOf 0 [s.av,.lst nb .sc (zad b)],hp:=[]})=some ((addH s (zck s ws 64)).av,[],[]):=by
 have e:=qeo (gl:=gl) F m1 m2 s ws hl
 have e2:=qah (gl:=gl) F s (zck s ws 64)
 simp only[L47,m93,K47]at e
 simp only[L47b,m93,K47b]at e2
 simp only[fd93,m93,H8.av,go_sem,simprocAttr,↓Nat.reduceEqDiff,c51,zec,hl,z6u,glK]
 rw[e _ (by simp only[S47,z8,H8.av,go_sem,simprocAttr,↓Nat.reduceEqDiff,zck])]
 unfold S47
 generalize zck s ws 64=v at *
 simp only[z8,H8.av,go_sem,simprocAttr,↓Nat.reduceEqDiff]
 rw[e2 _ (by simp only[S47b,z8,H8.av,go_sem,simprocAttr,↓Nat.reduceEqDiff,zqk])]
 simp only[S47b,z8,H8.av,go_sem,simprocAttr,↓Nat.reduceEqDiff,zqk]
theorem qb6 (d:Nat)(nb:Bool)(s:H8)(b:List UInt8)(hb:b.length=64):call gl tab (d+3) 93 [s.av,.lst nb .sc (zad b)] []=some ((zre s b).av,[],[]) :=
 (zah (n:=d+2) (fd:=fd93) rfl).trans (qga (call gl tab (d+2)) nb s b (zc6 b 64) (zcj b 64) (z3u (by omega) nb hb) (mix1 d) (mix2 d))
end Go.Proofs.S17.H
