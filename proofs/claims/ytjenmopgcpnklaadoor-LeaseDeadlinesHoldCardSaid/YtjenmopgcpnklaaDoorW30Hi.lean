/-
  The hash's compression: what it computes. No condition.
-/
import Derived.Test.YtjenmopgcpnklaaDoorW30Hh
set_option linter.unusedVariables false
set_option linter.unusedSimpArgs false
set_option linter.unusedSectionVars false
namespace Go.Proofs.S30.H
open Go Go.Ev Go.Proofs Go.Proofs.S30
variable {gl :Gl} [Nonempty (GlK gl)]
structure H8 where
 a:BitVec 32
 b:BitVec 32
 c:BitVec 32
 d:BitVec 32
 e:BitVec 32
 f:BitVec 32
 g:BitVec 32
 h:BitVec 32
def H8.av (s:H8):AV:=.agg [u32 s.a,u32 s.b,u32 s.c,u32 s.d,u32 s.e,u32 s.f,u32 s.g,u32 s.h]
def roundF (s:H8)(k wt:BitVec 32):H8 :=
 let x:=s.h+(rr s.e 6^^^rr s.e 11^^^rr s.e 25)+(s.e&&&s.f^^^ ~~~ s.e&&&s.g)+k+wt
 let y:=rr s.a 2^^^rr s.a 13^^^rr s.a 22
 ⟨x+(y+(s.a&&&s.b^^^s.a&&&s.c^^^s.b&&&s.c)),s.a,s.b,s.c,s.d+x,s.e,s.f,s.g⟩
def rounds8 (s:H8)(ws:Ws):Nat->H8
 | 0=>s
 | t+1=>roundF (rounds8 s ws t) (kList.getD t 0) (ws.getD t 0)
def addH (s v:H8):H8:=⟨s.a+v.a,s.b+v.b,s.c+v.c,s.d+v.d,s.e+v.e,s.f+v.f,s.g+v.g,s.h+v.h⟩
def compF (s:H8)(b:List UInt8):H8:=addH s (rounds8 s (sched b 64) 64)
theorem sched_at {n:Nat}(h:2<=n)(nb:Bool){b:List UInt8}(hb:b.length=64):call gl tab n 103 [.lst nb .sc (bytesAV b)] []=some (.agg (wsAV (sched b 64)),[],[]):=by
 obtain⟨d,rfl⟩:=Nat.exists_eq_add_of_le' h
 exact sched_ok d nb b hb
theorem mix1 (d:Nat)(x:BitVec 32):call gl tab (d+2) 104 [u32 x,.int .i64 6,.int .i64 11,.int .i64 25] []=some (u32 (rr x 6^^^rr x 11^^^rr x 25),[],[]) :=
 mix_ok d x 6 11 25 (by omega) (by omega) (by omega) (by omega) (by omega) (by omega)
theorem mix2 (d:Nat)(x:BitVec 32):call gl tab (d+2) 104 [u32 x,.int .i64 2,.int .i64 13,.int .i64 22] []=some (u32 (rr x 2^^^rr x 13^^^rr x 22),[],[]) :=
 mix_ok d x 2 13 22 (by omega) (by omega) (by omega) (by omega) (by omega) (by omega)
theorem kA_get (n:Nat)(h:n<64):kA[n]? =some (u32 (kList.getD n 0)):=by
 unfold kA
 rw[List.getElem?_map,List.getD_eq_getElem?_getD,List.getElem?_eq_getElem (by simpa[kList]using h)];rfl
theorem kA_len :kA.length=64:=rfl
theorem kA_all :kA.all AV.scalar=true:=by
 rw[List.all_eq_true];intro x hx
 obtain⟨y,_,rfl⟩:=List.mem_map.1 hx;rfl
def partH (s v:H8):Nat->H8
 | 0=>s
 | 1=>⟨s.a+v.a,s.b,s.c,s.d,s.e+v.e,s.f,s.g,s.h⟩
 | 2=>⟨s.a+v.a,s.b+v.b,s.c,s.d,s.e+v.e,s.f+v.f,s.g,s.h⟩
 | 3=>⟨s.a+v.a,s.b+v.b,s.c+v.c,s.d,s.e+v.e,s.f+v.f,s.g+v.g,s.h⟩
 | _+4=>addH s v
theorem wl1 :IntKind.wrap .i64 1=1:=by decide
theorem wl2 :IntKind.wrap .i64 2=2:=by decide
theorem wl3 :IntKind.wrap .i64 3=3:=by decide
theorem wl4 :IntKind.wrap .i64 4=4:=by decide
theorem wl5 :IntKind.wrap .i64 5=5:=by decide
theorem wl6 :IntKind.wrap .i64 6=6:=by decide
theorem wl7 :IntKind.wrap .i64 7=7:=by decide
theorem notc (x:BitVec 32):@HXor.hXor (BitVec 32) (BitVec 32) (BitVec 32) (@instHXorOfXorOp (BitVec (IntKind.bits .u32)) (@BitVec.instXorOp (IntKind.bits .u32))) (BitVec.ofInt 32 (if IntKind.u32.signed=true then -1 else IntKind.u32.max)) x= ~~~ x:=by
 have:BitVec.ofInt 32 (if IntKind.u32.signed=true then -1 else IntKind.u32.max)=BitVec.allOnes 32:=by decide
 show BitVec.ofInt 32 (if IntKind.u32.signed=true then -1 else IntKind.u32.max)^^^x= ~~~ x
 rw[this,BitVec.allOnes_xor]
abbrev z8 :AV:=.agg [.int .u32 0,.int .u32 0,.int .u32 0,.int .u32 0,.int .u32 0,.int .u32 0,.int .u32 0,.int .u32 0]
def L47 :MC:=match m99 with
 | .seq _ (.seq _ (.seq _ (.seq (.seq _ (.block _ (.loop _ b))) _)))=>b
 | _=>.skip
def L47b :MC:=match m99 with
 | .seq _ (.seq _ (.seq _ (.seq _ (.seq (.seq _ (.block _ (.loop _ b))) _))))=>b
 | _=>.skip
def K47 :List Kp:=[.slot 2,.slot 4,.slot 5,.slot 6,.slot 7,.slot 21,.slot 22,.key 2,.key 4,.key 5,.key 6,.key 7]
theorem step47 (F:Ev.Cl)(m1:∀x:BitVec 32,F 104 [u32 x,.int .i64 6,.int .i64 11,.int .i64 25] []=some (u32 (rr x 6^^^rr x 11^^^rr x 25),[],[]))(m2:∀x:BitVec 32,F 104 [u32 x,.int .i64 2,.int .i64 13,.int .i64 22] []=some (u32 (rr x 2^^^rr x 13^^^rr x 22),[],[]))(s:H8)(ws:Ws)(hl:ws.length=64)(t:Nat)(ht:t<64)(v:H8)(k x:BitVec 32)(hk:kA[t]? =some (u32 k))(hx:(wsAV ws)[t]? =some (u32 x)) :
  contK K47 (evC gl F L47 ⟨[.set 22 (.int .i64 t),.set 21 (.agg kA),.set 7 (.ptr 7 []),.set 6 (.ptr 6 []),.set 5 (.ptr 5 []),.set 4 (.ptr 4 []),.set 2 (.ptr 2 [])],
   [(7,.fix (.ar 4 .sc) (.agg [u32 v.e,u32 v.f,u32 v.g,u32 v.h])),(6,.fix (.ar 4 .sc) (.agg [u32 v.a,u32 v.b,u32 v.c,u32 v.d])),(5,.fix (.ar 64 .sc) (.agg (wsAV ws))),(4,.fix (.ar 8 .sc) z8),(2,.fix (.ar 8 .sc) s.av)]⟩)
  = some ⟨[.set 22 (.int .i64 ((t+1:Nat):Int)),.set 21 (.agg kA),.set 7 (.ptr 7 []),.set 6 (.ptr 6 []),.set 5 (.ptr 5 []),.set 4 (.ptr 4 []),.set 2 (.ptr 2 [])],
    [(7,.fix (.ar 4 .sc) (.agg [u32 (roundF v k x).e,u32 (roundF v k x).f,u32 (roundF v k x).g,u32 (roundF v k x).h])),(6,.fix (.ar 4 .sc) (.agg [u32 (roundF v k x).a,u32 (roundF v k x).b,u32 (roundF v k x).c,u32 (roundF v k x).d])),(5,.fix (.ar 64 .sc) (.agg (wsAV ws))),(4,.fix (.ar 8 .sc) z8),(2,.fix (.ar 8 .sc) s.av)]⟩:=by
 obtain⟨va,vb,vc,vd,ve,vf,vg,vh⟩:=v
 simp only[L47,m99,K47,z8,H8.av,go_sem,simprocAttr,↓reduceIte,↓Nat.reduceEqDiff,ht,hk,hx,kA_len,kA_all,wsAV_length,hl,m1,m2,notc,wrap_succ (show t<2^62 by omega),roundF]
def K47b :List Kp:=[.slot 2,.slot 4,.slot 6,.slot 7,.slot 94,.key 2,.key 4,.key 6,.key 7]
def S47b (s v:H8)(i:Nat):St :=
 ⟨[.set 94 (.int .i64 i),.set 7 (.ptr 7 []),.set 6 (.ptr 6 []),.set 4 (.ptr 4 []),.set 2 (.ptr 2 [])],
  [(7,.fix (.ar 4 .sc) (.agg [u32 v.e,u32 v.f,u32 v.g,u32 v.h])),(6,.fix (.ar 4 .sc) (.agg [u32 v.a,u32 v.b,u32 v.c,u32 v.d])),(4,.fix (.ar 8 .sc) z8),(2,.fix (.ar 8 .sc) (partH s v i).av)]⟩
theorem step47b (F:Ev.Cl)(s v:H8)(i:Nat)(hi:i<4):contK K47b (evC gl F L47b (S47b s v i))=some (S47b s v (i+1)):=by
 match i,hi with
 | 0,_=>simp only[L47b,m99,K47b,z8,S47b,H8.av,go_sem,simprocAttr,↓reduceIte,↓Nat.reduceEqDiff,partH,wl1,wl4]
 | 1,_=>simp only[L47b,m99,K47b,z8,S47b,H8.av,go_sem,simprocAttr,↓reduceIte,↓Nat.reduceEqDiff,partH,wl2,wl5]
 | 2,_=>simp only[L47b,m99,K47b,z8,S47b,H8.av,go_sem,simprocAttr,↓reduceIte,↓Nat.reduceEqDiff,partH,wl3,wl6]
 | 3,_=>simp only[L47b,m99,K47b,z8,S47b,H8.av,go_sem,simprocAttr,↓reduceIte,↓Nat.reduceEqDiff,partH,addH,wl4,wl7]
theorem end47b (F:Ev.Cl)(s v:H8):evC gl F L47b (S47b s v 4)=some (.exit 2,⟨.set 95 (.bool false)::(S47b s v 4).fr,(S47b s v 4).hp⟩):=by
 simp only[L47b,m99,z8,S47b,H8.av,go_sem,simprocAttr,↓reduceIte,↓Nat.reduceEqDiff,partH]
def S47 (s:H8)(ws:Ws)(t:Nat):St :=
 ⟨[.set 22 (.int .i64 t),.set 21 (.agg kA),.set 7 (.ptr 7 []),.set 6 (.ptr 6 []),.set 5 (.ptr 5 []),.set 4 (.ptr 4 []),.set 2 (.ptr 2 [])],
  [(7,.fix (.ar 4 .sc) (.agg [u32 (rounds8 s ws t).e,u32 (rounds8 s ws t).f,u32 (rounds8 s ws t).g,u32 (rounds8 s ws t).h])),(6,.fix (.ar 4 .sc) (.agg [u32 (rounds8 s ws t).a,u32 (rounds8 s ws t).b,u32 (rounds8 s ws t).c,u32 (rounds8 s ws t).d])),(5,.fix (.ar 64 .sc) (.agg (wsAV ws))),
   (4,.fix (.ar 8 .sc) z8),(2,.fix (.ar 8 .sc) s.av)]⟩
theorem end47 (F:Ev.Cl)(s:H8)(ws:Ws):evC gl F L47 (S47 s ws 64)=some (.exit 0,⟨.set 23 (.bool false)::(S47 s ws 64).fr,(S47 s ws 64).hp⟩):=by
 unfold S47
 generalize rounds8 s ws 64=v
 simp only[L47,m99,z8,H8.av,go_sem,simprocAttr,↓reduceIte,↓Nat.reduceEqDiff]
theorem loop47 (F:Ev.Cl)(m1:∀x:BitVec 32,F 104 [u32 x,.int .i64 6,.int .i64 11,.int .i64 25] []=some (u32 (rr x 6^^^rr x 11^^^rr x 25),[],[]))(m2:∀x:BitVec 32,F 104 [u32 x,.int .i64 2,.int .i64 13,.int .i64 22] []=some (u32 (rr x 2^^^rr x 13^^^rr x 22),[],[]))
  (s:H8) (ws:Ws) (hl:ws.length=64) (st:St) (h0:clean K47 st=some (S47 s ws 0)):iter (evC gl F L47) K47 LF st=some (.exit 0,⟨.set 23 (.bool false)::(S47 s ws 64).fr,(S47 s ws 64).hp⟩):=by
 rw[iter_to (S47 s ws) 64 (by unfold LF;omega) h0 (fun t ht=> ?_) (by rw[end47];rfl),end47]
 have:=step47 (gl:=gl) F m1 m2 s ws hl t ht (rounds8 s ws t) (kList.getD t 0) (ws.getD t 0) (kA_get t ht) (wsAV_get (by omega))
 unfold S47
 rw[this,rounds8]
theorem loop47b (F:Ev.Cl)(s v:H8)(st:St)(h0:clean K47b st=some (S47b s v 0)):iter (evC gl F L47b) K47b LF st=some (.exit 2,⟨.set 95 (.bool false)::(S47b s v 4).fr,(S47b s v 4).hp⟩):=by
 rw[iter_to (S47b s v) 4 (by unfold LF;omega) h0 (fun i hi=>step47b F s v i hi) (by rw[end47b];rfl),end47b]
theorem comp_F (F:Ev.Cl)(nb:Bool)(s:H8)(b:List UInt8)(ws:Ws)(hl:ws.length=64)(c51:F 103 [.lst nb .sc (bytesAV b)] []=some (.agg (wsAV ws),[],[]))
  (m1:∀x:BitVec 32,F 104 [u32 x,.int .i64 6,.int .i64 11,.int .i64 25] []=some (u32 (rr x 6^^^rr x 11^^^rr x 25),[],[])) (m2:∀x:BitVec 32,F 104 [u32 x,.int .i64 2,.int .i64 13,.int .i64 22] []=some (u32 (rr x 2^^^rr x 13^^^rr x 22),[],[])) :
  finK fd99.res fd99.pk (evC gl F fd99.body {fr:=frOf 0 [s.av,.lst nb .sc (bytesAV b)],hp:=[]})=some ((addH s (rounds8 s ws 64)).av,[],[]):=by
 have e:=loop47 (gl:=gl) F m1 m2 s ws hl
 have e2:=loop47b (gl:=gl) F s (rounds8 s ws 64)
 simp only[L47,m99,K47]at e
 simp only[L47b,m99,K47b]at e2
 simp only[fd99,m99,H8.av,go_sem,simprocAttr,↓reduceIte,↓Nat.reduceEqDiff,c51,wsAV_length,hl,ws_all,glK]
 rw[e _ (by simp only[S47,z8,H8.av,go_sem,simprocAttr,↓reduceIte,↓Nat.reduceEqDiff,rounds8])]
 unfold S47
 generalize rounds8 s ws 64=v at *
 simp only[z8,H8.av,go_sem,simprocAttr,↓reduceIte,↓Nat.reduceEqDiff]
 rw[e2 _ (by simp only[S47b,z8,H8.av,go_sem,simprocAttr,↓reduceIte,↓Nat.reduceEqDiff,partH])]
 simp only[S47b,z8,H8.av,go_sem,simprocAttr,↓reduceIte,↓Nat.reduceEqDiff,partH]
theorem comp_ok (d:Nat)(nb:Bool)(s:H8)(b:List UInt8)(hb:b.length=64):call gl tab (d+3) 99 [s.av,.lst nb .sc (bytesAV b)] []=some ((compF s b).av,[],[]) :=
 (call_go (n:=d+2) (fd:=fd99) rfl).trans (comp_F (call gl tab (d+2)) nb s b (sched b 64) (sched_len b 64) (sched_at (by omega) nb hb) (mix1 d) (mix2 d))
end Go.Proofs.S30.H
