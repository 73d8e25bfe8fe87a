/-
  The hash's compression: what it computes. No condition.
-/
import Derived.Test.YtcddalfeicoedaaGreatDoorW44G2x7
set_option linter.unusedVariables false
set_option linter.unusedSimpArgs false
set_option linter.unusedSectionVars false
namespace Go.Proofs.S44.H
open Go Go.Ev Go.Proofs Go.Proofs.S44
variable {gl :Gl} [Nonempty (GlK gl)]
structure H8 where
 a:BitVec 32
 b:BitVec 32
 c:BitVec 32
 d:BitVec 32
 e:BitVec 32
 f:BitVec 32
 g:BitVec 32
 h:BitVec 32
def H8.av (s:H8):AV:=.agg [u32 s.a,u32 s.b,u32 s.c,u32 s.d,u32 s.e,u32 s.f,u32 s.g,u32 s.h]
def zgf (s:H8)(k wt:BitVec 32):H8 :=
 let x:=s.h+(rr s.e 6^^^rr s.e 11^^^rr s.e 25)+(s.e&&&s.f^^^ ~~~ s.e&&&s.g)+k+wt
 let y:=rr s.a 2^^^rr s.a 13^^^rr s.a 22
 ⟨x+(y+(s.a&&&s.b^^^s.a&&&s.c^^^s.b&&&s.c)),s.a,s.b,s.c,s.d+x,s.e,s.f,s.g⟩
def zb0 (s:H8)(ws:Ws):Nat->H8
 | 0=>s
 | t+1=>zgf (zb0 s ws t) (kList.getD t 0) (ws.getD t 0)
def addH (s v:H8):H8:=⟨s.a+v.a,s.b+v.b,s.c+v.c,s.d+v.d,s.e+v.e,s.f+v.f,s.g+v.g,s.h+v.h⟩
def compF (s:H8)(b:List UInt8):H8:=addH s (zb0 s (zbs b 64) 64)
theorem sched_at {n:Nat}(h:2<=n)(nb:Bool){b:List UInt8}(hb:b.length=64):call gl tab n 169 [.lst nb .sc (zac b)] []=some (.agg (wsAV (zbs b 64)),[],[]):=by
 obtain⟨d,rfl⟩:=Nat.exists_eq_add_of_le' h
 exact sched_ok d nb b hb
theorem mix1 (d:Nat)(x:BitVec 32):call gl tab (d+2) 170 [u32 x,.int .i64 6,.int .i64 11,.int .i64 25] []=some (u32 (rr x 6^^^rr x 11^^^rr x 25),[],[]) :=
 mix_ok d x 6 11 25 (by omega) (by omega) (by omega) (by omega) (by omega) (by omega)
theorem mix2 (d:Nat)(x:BitVec 32):call gl tab (d+2) 170 [u32 x,.int .i64 2,.int .i64 13,.int .i64 22] []=some (u32 (rr x 2^^^rr x 13^^^rr x 22),[],[]) :=
 mix_ok d x 2 13 22 (by omega) (by omega) (by omega) (by omega) (by omega) (by omega)
theorem kA_get (n:Nat)(h:n<64):kA[n]? =some (u32 (kList.getD n 0)):=by
 unfold kA
 rw[List.getElem?_map,List.getD_eq_getElem?_getD,List.getElem?_eq_getElem (by simpa[kList]using h)];rfl
theorem kA_len :kA.length=64:=rfl
theorem kA_all :kA.all AV.scalar=true:=by
 rw[List.all_eq_true];intro x hx
 obtain⟨y,_,rfl⟩:=List.mem_map.1 hx;rfl
def partH (s v:H8):Nat->H8
 | 0=>s
 | 1=>⟨s.a+v.a,s.b,s.c,s.d,s.e+v.e,s.f,s.g,s.h⟩
 | 2=>⟨s.a+v.a,s.b+v.b,s.c,s.d,s.e+v.e,s.f+v.f,s.g,s.h⟩
 | 3=>⟨s.a+v.a,s.b+v.b,s.c+v.c,s.d,s.e+v.e,s.f+v.f,s.g+v.g,s.h⟩
 | _+4=>addH s v
theorem wl1 :IntKind.wrap .i64 1=1:=by decide
theorem wl2 :IntKind.wrap .i64 2=2:=by decide
theorem wl3 :IntKind.wrap .i64 3=3:=by decide
theorem wl4 :IntKind.wrap .i64 4=4:=by decide
theorem wl5 :IntKind.wrap .i64 5=5:=by decide
theorem wl6 :IntKind.wrap .i64 6=6:=by decide
theorem wl7 :IntKind.wrap .i64 7=7:=by decide
theorem notc (x:BitVec 32):@HXor.hXor (BitVec 32) (BitVec 32) (BitVec 32) (@instHXorOfXorOp (BitVec (IntKind.bits .u32)) (@BitVec.instXorOp (IntKind.bits .u32))) (BitVec.ofInt 32 (if IntKind.u32.signed=true then -1 else IntKind.u32.max)) x= ~~~ x:=by
 have:BitVec.ofInt 32 (if IntKind.u32.signed=true then -1 else IntKind.u32.max)=BitVec.allOnes 32:=by decide
 show BitVec.ofInt 32 (if IntKind.u32.signed=true then -1 else IntKind.u32.max)^^^x= ~~~ x
 rw[this,BitVec.allOnes_xor]
abbrev z8 :AV:=.agg [.int .u32 0,.int .u32 0,.int .u32 0,.int .u32 0,.int .u32 0,.int .u32 0,.int .u32 0,.int .u32 0]
def L47 :MC:=match m158 with
 | .seq _ (.seq _ (.seq _ (.seq (.seq _ (.block _ (.loop _ b))) _)))=>b
 | _=>.skip
def L47b :MC:=match m158 with
 | .seq _ (.seq _ (.seq _ (.seq _ (.seq (.seq _ (.block _ (.loop _ b))) _))))=>b
 | _=>.skip
def K47 :List Kp:=[.slot 2,.slot 4,.slot 5,.slot 6,.slot 7,.slot 21,.slot 22,.key 2,.key 4,.key 5,.key 6,.key 7]
theorem step47 (F:Ev.Cl)(m1:∀x:BitVec 32,F 170 [u32 x,.int .i64 6,.int .i64 11,.int .i64 25] []=some (u32 (rr x 6^^^rr x 11^^^rr x 25),[],[]))(m2:∀x:BitVec 32,F 170 [u32 x,.int .i64 2,.int .i64 13,.int .i64 22] []=some (u32 (rr x 2^^^rr x 13^^^rr x 22),[],[]))(s:H8)(ws:Ws)(hl:ws.length=64)(t:Nat)(ht:t<64)(v:H8)(k x:BitVec 32)(hk:kA[t]? =some (u32 k))(hx:(wsAV ws)[t]? =some (u32 x)) :
  zbm K47 (evC gl F L47 ⟨[.set 22 (.int .i64 t),.set 21 (.agg kA),.set 7 (.ptr 7 []),.set 6 (.ptr 6 []),.set 5 (.ptr 5 []),.set 4 (.ptr 4 []),.set 2 (.ptr 2 [])],
   [(7,.fix (.ar 4 .sc) (.agg [u32 v.e,u32 v.f,u32 v.g,u32 v.h])),(6,.fix (.ar 4 .sc) (.agg [u32 v.a,u32 v.b,u32 v.c,u32 v.d])),(5,.fix (.ar 64 .sc) (.agg (wsAV ws))),(4,.fix (.ar 8 .sc) z8),(2,.fix (.ar 8 .sc) s.av)]⟩)
  = some ⟨[.set 22 (.int .i64 ((t+1:Nat):Int)),.set 21 (.agg kA),.set 7 (.ptr 7 []),.set 6 (.ptr 6 []),.set 5 (.ptr 5 []),.set 4 (.ptr 4 []),.set 2 (.ptr 2 [])],
    [(7,.fix (.ar 4 .sc) (.agg [u32 (zgf v k x).e,u32 (zgf v k x).f,u32 (zgf v k x).g,u32 (zgf v k x).h])),(6,.fix (.ar 4 .sc) (.agg [u32 (zgf v k x).a,u32 (zgf v k x).b,u32 (zgf v k x).c,u32 (zgf v k x).d])),(5,.fix (.ar 64 .sc) (.agg (wsAV ws))),(4,.fix (.ar 8 .sc) z8),(2,.fix (.ar 8 .sc) s.av)]⟩:=by
 obtain⟨va,vb,vc,vd,ve,vf,vg,vh⟩:=v
 simp only[L47,m158,K47,z8,H8.av,go_sem,simprocAttr,↓Nat.reduceEqDiff,ht,hk,hx,kA_len,kA_all,zb5,hl,m1,m2,notc,zdv (show t<2^62 by omega),zgf]
def K47b :List Kp:=[.slot 2,.slot 4,.slot 6,.slot 7,.slot 94,.key 2,.key 4,.key 6,.key 7]
def S47b (s v:H8)(i:Nat):St :=
 ⟨[.set 94 (.int .i64 i),.set 7 (.ptr 7 []),.set 6 (.ptr 6 []),.set 4 (.ptr 4 []),.set 2 (.ptr 2 [])],
  [(7,.fix (.ar 4 .sc) (.agg [u32 v.e,u32 v.f,u32 v.g,u32 v.h])),(6,.fix (.ar 4 .sc) (.agg [u32 v.a,u32 v.b,u32 v.c,u32 v.d])),(4,.fix (.ar 8 .sc) z8),(2,.fix (.ar 8 .sc) (partH s v i).av)]⟩
theorem step47b (F:Ev.Cl)(s v:H8)(i:Nat)(hi:i<4):zbm K47b (evC gl F L47b (S47b s v i))=some (S47b s v (i+1)):=by
 match i,hi with
 | 0,_=>simp only[L47b,m158,K47b,z8,S47b,H8.av,go_sem,simprocAttr,↓Nat.reduceEqDiff,partH,wl1,wl4]
 | 1,_=>simp only[L47b,m158,K47b,z8,S47b,H8.av,go_sem,simprocAttr,↓Nat.reduceEqDiff,partH,wl2,wl5]
 | 2,_=>simp only[L47b,m158,K47b,z8,S47b,H8.av,go_sem,simprocAttr,↓Nat.reduceEqDiff,partH,wl3,wl6]
 | 3,_=>simp only[L47b,m158,K47b,z8,S47b,H8.av,go_sem,simprocAttr,↓Nat.reduceEqDiff,partH,addH,wl4,wl7]
theorem end47b (F:Ev.Cl)(s v:H8):evC gl F L47b (S47b s v 4)=some (.exit 2,⟨.set 95 (.bool false)::(S47b s v 4).fr,(S47b s v 4).hp⟩):=by
 simp only[L47b,m158,z8,S47b,H8.av,go_sem,simprocAttr,↓Nat.reduceEqDiff,partH]
def S47 (s:H8)(ws:Ws)(t:Nat):St :=
 ⟨[.set 22 (.int .i64 t),.set 21 (.agg kA),.set 7 (.ptr 7 []),.set 6 (.ptr 6 []),.set 5 (.ptr 5 []),.set 4 (.ptr 4 []),.set 2 (.ptr 2 [])],
  [(7,.fix (.ar 4 .sc) (.agg [u32 (zb0 s ws t).e,u32 (zb0 s ws t).f,u32 (zb0 s ws t).g,u32 (zb0 s ws t).h])),(6,.fix (.ar 4 .sc) (.agg [u32 (zb0 s ws t).a,u32 (zb0 s ws t).b,u32 (zb0 s ws t).c,u32 (zb0 s ws t).d])),(5,.fix (.ar 64 .sc) (.agg (wsAV ws))),
   (4,.fix (.ar 8 .sc) z8),(2,.fix (.ar 8 .sc) s.av)]⟩
theorem end47 (F:Ev.Cl)(s:H8)(ws:Ws):evC gl F L47 (S47 s ws 64)=some (.exit 0,⟨.set 23 (.bool false)::(S47 s ws 64).fr,(S47 s ws 64).hp⟩):=by
 unfold S47
 generalize zb0 s ws 64=v
 simp only[L47,m158,z8,H8.av,go_sem,simprocAttr,↓Nat.reduceEqDiff]
theorem loop47 (F:Ev.Cl)(m1:∀x:BitVec 32,F 170 [u32 x,.int .i64 6,.int .i64 11,.int .i64 25] []=some (u32 (rr x 6^^^rr x 11^^^rr x 25),[],[]))(m2:∀x:BitVec 32,F 170 [u32 x,.int .i64 2,.int .i64 13,.int .i64 22] []=some (u32 (rr x 2^^^rr x 13^^^rr x 22),[],[]))
  (s:H8) (ws:Ws) (hl:ws.length=64) (st:St) (h0:zc6 K47 st=some (S47 s ws 0)):iter (evC gl F L47) K47 LF st=some (.exit 0,⟨.set 23 (.bool false)::(S47 s ws 64).fr,(S47 s ws 64).hp⟩):=by
 rw[zal (S47 s ws) 64 (by unfold LF;omega) h0 (fun t ht=> ?_) (by rw[end47];rfl),end47]
 have:=step47 (gl:=gl) F m1 m2 s ws hl t ht (zb0 s ws t) (kList.getD t 0) (ws.getD t 0) (kA_get t ht) (zci (by omega))
 unfold S47
 rw[this,zb0]
theorem loop47b (F:Ev.Cl)(s v:H8)(st:St)(h0:zc6 K47b st=some (S47b s v 0)):iter (evC gl F L47b) K47b LF st=some (.exit 2,⟨.set 95 (.bool false)::(S47b s v 4).fr,(S47b s v 4).hp⟩):=by
 rw[zal (S47b s v) 4 (by unfold LF;omega) h0 (fun i hi=>step47b F s v i hi) (by rw[end47b];rfl),end47b]
theorem comp_F (F:Ev.Cl)(nb:Bool)(s:H8)(b:List UInt8)(ws:Ws)(hl:ws.length=64)(c51:F 169 [.lst nb .sc (zac b)] []=some (.agg (wsAV ws),[],[]))
  (m1:∀x:BitVec 32,F 170 [u32 x,.int .i64 6,.int .i64 11,.int .i64 25] []=some (u32 (rr x 6^^^rr x 11^^^rr x 25),[],[])) (m2:∀x:BitVec 32,F 170 [u32 x,.int .i64 2,.int .i64 13,.int .i64 22] []=some (u32 (rr x 2^^^rr x 13^^^rr x 22),[],[])) :
  finK fd158.res fd158.pk (evC gl F fd158.body {fr:=frOf 0 [s.av,.lst nb .sc (zac b)],hp:=[]})=some ((addH s (zb0 s ws 64)).av,[],[]):=by
 have e:=loop47 (gl:=gl) F m1 m2 s ws hl
 have e2:=loop47b (gl:=gl) F s (zb0 s ws 64)
 simp only[L47,m158,K47]at e
 simp only[L47b,m158,K47b]at e2
 simp only[fd158,m158,H8.av,go_sem,simprocAttr,↓Nat.reduceEqDiff,c51,zb5,hl,ws_all,glK]
 rw[e _ (by simp only[S47,z8,H8.av,go_sem,simprocAttr,↓Nat.reduceEqDiff,zb0])]
 unfold S47
 generalize zb0 s ws 64=v at *
 simp only[z8,H8.av,go_sem,simprocAttr,↓Nat.reduceEqDiff]
 rw[e2 _ (by simp only[S47b,z8,H8.av,go_sem,simprocAttr,↓Nat.reduceEqDiff,partH])]
 simp only[S47b,z8,H8.av,go_sem,simprocAttr,↓Nat.reduceEqDiff,partH]
theorem comp_ok (d:Nat)(nb:Bool)(s:H8)(b:List UInt8)(hb:b.length=64):call gl tab (d+3) 158 [s.av,.lst nb .sc (zac b)] []=some ((compF s b).av,[],[]) :=
 (zad (n:=d+2) (fd:=fd158) rfl).trans (comp_F (call gl tab (d+2)) nb s b (zbs b 64) (za6 b 64) (sched_at (by omega) nb hb) (mix1 d) (mix2 d))
end Go.Proofs.S44.H
namespace Go.Proofs.S44.H
open Go Go.Ev Go.Proofs Go.Proofs.S44
variable {gl :Gl} [Nonempty (GlK gl)]
structure Sm where
 h:H8
 blk:List UInt8
 n:Nat
def Sm.av (s:Sm):AV:=.agg [s.h.av,.agg (zac s.blk),.int .u64 (s.n:Int)]
def za4 (s:Sm)(t:List UInt8):Nat:=min t.length (64-s.n%64)
def zer (s:Sm)(t:List UInt8):List UInt8:=s.blk.take (s.n%64)++t.take (za4 s t)++s.blk.drop (s.n%64+za4 s t)
def chunk (s:Sm)(t:List UInt8):Sm:=⟨if s.n%64+za4 s t=64 then compF s.h (zer s t)else s.h,zer s t,s.n+za4 s t⟩
def zst :AV:=.agg [z8,.agg (List.replicate 64 (.int .u8 0)),.int .u64 0]
theorem zst_refs :zst.refs=[]:=by kernel_rfl
def L32 :MC:=match m133 with
 | .seq _ (.seq (.block _ (.loop _ b)) _)=>b
 | _=>.skip
def K32 :List Kp:=[.slot 1,.slot 2,.slot 4,.key 2,.key 4]
def S32 (s:Sm)(t:List UInt8):St :=
 ⟨[.set 4 (.ptr 4 []),.set 2 (.ptr 2 []),.set 1 (.str t)],[(4,.fix (.st [.ar 8 .sc,.ar 64 .sc,.sc]) zst),(2,.fix (.st [.ar 8 .sc,.ar 64 .sc,.sc]) s.av)]⟩
theorem remu (a:Nat):zar .rem .u64 (a:Int) 64=some (.int .u64 ((a%64:Nat):Int)):=by
 have h8:¬((64:Int)=0):=by decide
 simp only[zar,h8,if_false];rfl
theorem zkh (l:List UInt8)(k:Nat):(zac l).drop k=zac (l.drop k):=by simp[zac,List.map_drop]
theorem zhv (l:List UInt8)(k:Nat):(zac l).take k=zac (l.take k):=by simp[zac,List.map_take]
theorem zjw (s:Sm)(t:List UInt8)(hb:s.blk.length=64):(zer s t).length=64:=by
 unfold zer za4
 simp only[List.length_append,List.length_take,List.length_drop,hb]
 have:=Nat.mod_lt s.n (show 0<64 by omega)
 omega
theorem step32 (F:Ev.Cl)(s:Sm)(t:List UInt8)(hb:s.blk.length=64)(hn:s.n<2^62)(ht:t≠[])(htl:t.length<2^62)
  (c47:F 158 [s.h.av,.lst false .sc (zac (zer s t))] []=some ((compF s.h (zer s t)).av,[],[])) :
  zbm K32 (evC gl F L32 (S32 s t))=some (S32 (chunk s t) (t.drop (za4 s t))):=by
 have hat:s.n%64<64:=Nat.mod_lt _ (by omega)
 have hne:(!(t==[]))=true:=by simp[ht]
 have hw1:IntKind.wrap .i64 ((s.n%64:Nat):Int)=((s.n%64:Nat):Int):=zaz (by omega) (by omega)
 have hk:za4 s t=min t.length (64-s.n%64):=rfl
 have hk1:za4 s t<=t.length:=by rw[hk];exact Nat.min_le_left _ _
 have hk2:s.n%64+za4 s t<=64:=by have:=Nat.min_le_right t.length (64-s.n%64);omega
 have hBl:=zjw s t hb
 have hadd:(BitVec.ofNat 64 s.n+BitVec.ofNat 64 (za4 s t)).toNat=s.n+za4 s t:=by
  rw[<-BitVec.ofNat_add,BitVec.toNat_ofNat,Nat.mod_eq_of_lt (by omega)]
 have hw2:IntKind.wrap .i64 (((s.n%64:Nat):Int)+((za4 s t:Nat):Int))=((s.n%64+za4 s t:Nat):Int):=by rw[zaz (by omega) (by omega)];omega
 have hB:List.take (s.n%64) (zac s.blk)++(List.take (za4 s t) (zac t)++List.drop (s.n%64+za4 s t) (zac s.blk))=zac (zer s t):=by
  rw[zhv,zhv,zkh,<-zaf,<-zaf,zer,List.append_assoc]
 have hB':List.take (s.n%64) (zac s.blk)++List.take (za4 s t) (zac t)++List.drop (s.n%64+za4 s t) (zac s.blk)=zac (zer s t):=by rw[List.append_assoc,hB]
 have hte:(zac t).isEmpty=false:=by
  cases t with
  | nil=>exact absurd rfl ht
  | cons a l=>rfl
 have hle:s.n%64<=64:=by omega
 have hof:s.n%64+(64-s.n%64)=64:=by omega
 have htk:(zac (zer s t)).take 64=zac (zer s t):=bytesAV_take' hBl
 simp only[H8.av]at c47
 by_cases h64:s.n%64+za4 s t=64
 . have he:(((s.n%64+za4 s t:Nat):Int)==64)=true:=by rw[h64];rfl
   simp only[L32,m133,K32,S32,Sm.av,H8.av,go_sem,simprocAttr,↓Nat.reduceEqDiff,hne,remu,hw1,hb,hat,hle,hof,hte,zaa,<-hk,hB',hw2,hadd,hk1,he,hBl,htk,c47,zst_refs,chunk,if_pos h64]
 . have he:(((s.n%64+za4 s t:Nat):Int)==64)=false:=by rw[beq_eq_false_iff_ne];omega
   simp only[L32,m133,K32,S32,Sm.av,H8.av,go_sem,simprocAttr,↓Nat.reduceEqDiff,hne,remu,hw1,hb,hat,hle,hof,hte,zaa,<-hk,hB',hw2,hadd,hk1,he,zst_refs,chunk,if_neg h64]
theorem end32 (F:Ev.Cl)(s:Sm):isEx (evC gl F L32 (S32 s []))=true:=by
 simp only[L32,m133,S32,go_sem,simprocAttr,↓Nat.reduceEqDiff]
def rnd (s:Sm)(t:List UInt8):Nat->Sm×List UInt8
 | 0=>(s,t)
 | i+1=>(chunk (rnd s t i).1 (rnd s t i).2,(rnd s t i).2.drop (za4 (rnd s t i).1 (rnd s t i).2))
theorem chunkK_pos (s:Sm){t:List UInt8}(h:t≠[]):0<za4 s t:=by
 have:=Nat.mod_lt s.n (show 0<64 by omega)
 have h1:0<t.length:=List.length_pos_iff.2 h
 unfold za4
 rcases Nat.le_total t.length (64-s.n%64)with e|e
 . rw[Nat.min_eq_left e];exact h1
 . rw[Nat.min_eq_right e];omega
theorem chunkK_le (s:Sm)(t:List UInt8):za4 s t<=t.length:=by unfold za4;exact Nat.min_le_left _ _
theorem rnd_ends (s:Sm)(t:List UInt8):∃N,N<=t.length/\(rnd s t N).2=[]/\∀i,i<N->(rnd s t i).2≠[]:=by
 have key:∀k,(∃N,N<=k/\(rnd s t N).2=[]/\∀i,i<N->(rnd s t i).2≠[])\/(∀i,i<k+1->(rnd s t i).2≠[])/\(rnd s t k).2.length+k<=t.length:=by
  intro k
  induction k with
  | zero =>
    by_cases h:t=[]
    . left;exact⟨0,Nat.le_refl _,h,fun i hi=>absurd hi (Nat.not_lt_zero _)⟩
    . right
      refine⟨fun i hi=> ?_,Nat.le_refl _⟩
      have:i=0:=by omega
      subst this;exact h
  | succ k ih =>
    rcases ih with ⟨N,h1,h2,h3⟩|⟨h1,h2⟩
    . left;exact⟨N,by omega,h2,h3⟩
    . have hp:=chunkK_pos (rnd s t k).1 (h1 k (by omega))
      have hl:=chunkK_le (rnd s t k).1 (rnd s t k).2
      have hlen:(rnd s t (k+1)).2.length+(k+1)<=t.length:=by
       show((rnd s t k).2.drop _).length+_<=_
       rw[List.length_drop];omega
      by_cases he:(rnd s t (k+1)).2=[]
      . left;exact⟨k+1,Nat.le_refl _,he,fun i hi=>h1 i (by omega)⟩
      . right
        refine⟨fun i hi=> ?_,hlen⟩
        by_cases e:i=k+1
        . subst e;exact he
        . exact h1 i (by omega)
 rcases key t.length with ⟨N,h1,h2,h3⟩|⟨h1,h2⟩
 . exact⟨N,h1,h2,h3⟩
 . exact absurd (List.length_eq_zero_iff.1 (by omega)) (h1 t.length (by omega))
def zc1 (m:List UInt8)(k:Nat):List UInt8:=(m.drop (64*k)).take 64
def zcy (m:List UInt8):Nat->H8
 | 0=>⟨0x6a09e667#32,0xbb67ae85#32,0x3c6ef372#32,0xa54ff53a#32,0x510e527f#32,0x9b05688c#32,0x1f83d9ab#32,0x5be0cd19#32⟩
 | k+1=>compF (zcy m k) (zc1 m k)
def Reps (s:Sm)(m:List UInt8):Prop :=
 s.n=m.length/\s.blk.length=64/\s.blk.take (m.length%64)=m.drop (64*(m.length/64))/\s.h=zcy m (m.length/64)
theorem blocksF_app (m t:List UInt8)(k:Nat)(h:64*k<=m.length):zcy (m++t) k=zcy m k:=by
 induction k with
 | zero=>rfl
 | succ k ih =>
   rw[zcy,zcy,ih (by omega)]
   congr 1
   unfold zc1
   rw[List.drop_append_of_le_length (by omega),List.take_append_of_le_length (by rw[List.length_drop];omega)]
theorem reps_chunk {s:Sm}{m:List UInt8}(h:Reps s m)(t:List UInt8):Reps (chunk s t) (m++t.take (za4 s t)):=by
 obtain⟨h1,h2,h3,h4⟩:=h
 have hr:m.length%64<64:=Nat.mod_lt _ (by omega)
 have hK1:=chunkK_le s t
 have hK2:m.length%64+za4 s t<=64:=by
  have:za4 s t<=64-s.n%64:=by unfold za4;exact Nat.min_le_right _ _
  rw[h1]at this;omega
 have hu:(t.take (za4 s t)).length=za4 s t:=by rw[List.length_take];omega
 have hB:zer s t=m.drop (64*(m.length/64))++t.take (za4 s t)++s.blk.drop (m.length%64+za4 s t):=by
  unfold zer;rw[h1,h3]
 have hdl:(m.drop (64*(m.length/64))).length=m.length%64:=by rw[List.length_drop];omega
 have hl:(m++t.take (za4 s t)).length=m.length+za4 s t:=by rw[List.length_append,hu]
 have hdr:(m++t.take (za4 s t)).drop (64*(m.length/64))=m.drop (64*(m.length/64))++t.take (za4 s t):=List.drop_append_of_le_length (by omega)
 refine⟨by show s.n+_=_;rw[hl,h1],zjw s t h2,?_,?_⟩
 . show(zer s t).take _=_
   by_cases h64:m.length%64+za4 s t=64
   . have e1:(m++t.take (za4 s t)).length%64=0:=by rw[hl];omega
     have e2:(m++t.take (za4 s t)).length<=64*((m++t.take (za4 s t)).length/64):=by rw[hl];omega
     rw[e1,List.take_zero,List.drop_eq_nil_of_le e2]
   . have e1:(m++t.take (za4 s t)).length%64=m.length%64+za4 s t:=by rw[hl];omega
     have e2:(m++t.take (za4 s t)).length/64=m.length/64:=by rw[hl];omega
     rw[e1,e2,hdr,hB,List.take_append_of_le_length (by rw[List.length_append,hdl,hu];omega),List.take_of_length_le (by rw[List.length_append,hdl,hu];omega)]
 . show(if s.n%64+za4 s t=64 then compF s.h (zer s t)else s.h)=_
   by_cases h64:m.length%64+za4 s t=64
   . have e2:(m++t.take (za4 s t)).length/64=m.length/64+1:=by rw[hl];omega
     rw[h1,if_pos h64,e2,zcy,blocksF_app _ _ _ (by omega),h4]
     congr 1
     unfold zc1
     have hd:s.blk.drop 64=[]:=List.drop_eq_nil_of_le (by omega)
     rw[hdr,hB,h64,hd,List.append_nil]
     exact(List.take_of_length_le (by rw[List.length_append,hdl,hu];omega)).symm
   . have e2:(m++t.take (za4 s t)).length/64=m.length/64:=by rw[hl];omega
     rw[h1,if_neg h64,e2,blocksF_app _ _ _ (by omega),h4]
theorem reps_rnd {s:Sm}{m:List UInt8}(h:Reps s m)(t:List UInt8)(i:Nat):∃u,t=u++(rnd s t i).2/\Reps (rnd s t i).1 (m++u):=by
 induction i with
 | zero=>exact⟨[],rfl,by rw[List.append_nil];exact h⟩
 | succ i ih =>
   obtain⟨u,h1,h2⟩:=ih
   refine⟨u++(rnd s t i).2.take (za4 (rnd s t i).1 (rnd s t i).2),?_,?_⟩
   . show t=_++(rnd s t i).2.drop _
     rw[List.append_assoc,List.take_append_drop];exact h1
   . rw[<-List.append_assoc]
     exact reps_chunk h2 _
theorem bytes_all (l:List UInt8):(zac l).all AV.scalar=true:=by
 rw[List.all_eq_true];intro x hx
 obtain⟨y,_,rfl⟩:=List.mem_map.1 hx;rfl
theorem comp_at {n:Nat}(h:3<=n)(nb:Bool)(s:H8){b:List UInt8}(hb:b.length=64):call gl tab n 158 [s.av,.lst nb .sc (zac b)] []=some ((compF s b).av,[],[]):=by
 obtain⟨d,rfl⟩:=Nat.exists_eq_add_of_le' h
 exact comp_ok d nb s b hb
theorem loop32 (F:Ev.Cl)(c47:∀(h:H8) (b:List UInt8),b.length=64->F 158 [h.av,.lst false .sc (zac b)] []=some ((compF h b).av,[],[]))(s:Sm)(m t:List UInt8)(hs:Reps s m)(hm:m.length+t.length<2^60) :
  ∃s',Reps s' (m++t)/\∀st,zc6 K32 st=some (S32 s t)->iter (evC gl F L32) K32 LF st=evC gl F L32 (S32 s' []):=by
 obtain⟨N,hN,hend,hbefore⟩:=rnd_ends s t
 obtain⟨u,hu,hr⟩:=reps_rnd hs t N
 rw[hend,List.append_nil]at hu
 subst hu
 refine⟨(rnd s t N).1,hr,fun st h0=> ?_⟩
 rw[zal (fun i=>S32 (rnd s t i).1 (rnd s t i).2) N (by unfold LF;omega) h0 (fun i hi=> ?_) (by rw[hend];exact end32 F _),hend]
 obtain⟨v,hv,hr'⟩:=reps_rnd hs t i
 have hlen:=congrArg List.length hv
 rw[List.length_append]at hlen
 refine step32 F _ _ hr'.2.1 ?_ (hbefore i hi) (by omega) (c47 _ _ (zjw _ _ hr'.2.1))
 rw[hr'.1,List.length_append];omega
theorem add32_F (F:Ev.Cl)(c47:∀(h:H8) (b:List UInt8),b.length=64->F 158 [h.av,.lst false .sc (zac b)] []=some ((compF h b).av,[],[]))(s:Sm)(m t:List UInt8)(hs:Reps s m)(hm:m.length+t.length<2^60) :
  ∃s',Reps s' (m++t)/\finK fd133.res fd133.pk (evC gl F fd133.body {fr:=frOf 0 [s.av,.str t],hp:=[]})=some (s'.av,[],[]):=by
 have hz:AV.agg [.agg [.int .u32 0,.int .u32 0,.int .u32 0,.int .u32 0,.int .u32 0,.int .u32 0,.int .u32 0,.int .u32 0],.agg (List.replicate 64 (.int .u8 0)),.int .u64 0]=zst:=rfl
 obtain⟨s',hr,e⟩:=loop32 (gl:=gl) F c47 s m t hs hm
 refine⟨s',hr,?_⟩
 simp only[L32,m133,K32]at e
 have hl:=hs.2.1
 have hl':=hr.2.1
 simp only[fd133,m133,hz,Sm.av,H8.av,go_sem,simprocAttr,↓Nat.reduceEqDiff,zaa,bytes_all,hl]
 rw[e _ (by simp only[S32,Sm.av,H8.av,go_sem,simprocAttr,↓Nat.reduceEqDiff,zst_refs];rfl)]
 simp only[S32,Sm.av,H8.av,go_sem,simprocAttr,↓Nat.reduceEqDiff,zaa,bytes_all,hl']
theorem sadd_at {n:Nat}(h:4<=n)(s:Sm)(m t:List UInt8)(hs:Reps s m)(hm:m.length+t.length<2^60):∃s',Reps s' (m++t)/\call gl tab n 133 [s.av,.str t] []=some (s'.av,[],[]):=by
 obtain⟨d,rfl⟩:=Nat.exists_eq_add_of_le' h
 obtain⟨s',hr,e⟩:=add32_F (gl:=gl) (call gl tab (d+3)) (fun x b hb=>comp_at (by omega) false x hb) s m t hs hm
 exact⟨s',hr,(zad (n:=d+3) (fd:=fd133) rfl).trans e⟩
def s0 :Sm:=⟨zcy [] 0,List.replicate 64 0,0⟩
theorem reps0 :Reps s0 []:=⟨rfl,by simp[s0],by simp[s0],rfl⟩
theorem s0_av :s0.av= .agg [.agg [.int .u32 1779033703,.int .u32 3144134277,.int .u32 1013904242,.int .u32 2773480762,.int .u32 1359893119,.int .u32 2600822924,.int .u32 528734635,.int .u32 1541459225],.agg (List.replicate 64 (.int .u8 0)),.int .u64 0]:=by kernel_rfl
theorem sbegin_ok (d:Nat):call gl tab (d+1) 132 [] []=some (s0.av,[],[]):=by
 rw[zad (fd:=fd132) rfl,s0_av]
 simp only[fd132,m132,go_sem,simprocAttr,↓Nat.reduceEqDiff]
theorem sbegin_at {n:Nat}(h:1<=n):call gl tab n 132 [] []=some (s0.av,[],[]):=by
 obtain⟨d,rfl⟩:=Nat.exists_eq_add_of_le' h
 exact sbegin_ok d
end Go.Proofs.S44.H
