/-
  The hash's compression: what it computes. No condition.
-/
import Derived.Test.YthipjfnealbheaaGreatDoorW97G5x3
set_option linter.all false
open Nat renaming exists_eq_add_of_le'->wB,mod_lt->wC,le_refl->wD,min_le_right->wE,min_le_left->wF
open List renaming length_append->wG,append_assoc->wH,length_drop->wJ,take_append_of_le_length->wK,drop_append_of_le_length->wL,append_nil->wM,take_of_length_le->wN,drop_eq_nil_of_le->wO,length_take->wP,all_eq_true->wQ,mem_map->wR
namespace Go.Proofs.S97.H
open Go Go.Ev Go.Proofs Go.Proofs.S97
variable {gl :Gl} [Nonempty (GlK gl)]
structure H8 where
 a:BitVec 32
 b:BitVec 32
 c:BitVec 32
 d:BitVec 32
 e:BitVec 32
 f:BitVec 32
 g:BitVec 32
 h:BitVec 32
def H8.av (s:H8):AV:=.agg [u32 s.a,u32 s.b,u32 s.c,u32 s.d,u32 s.e,u32 s.f,u32 s.g,u32 s.h]
def zgs (s:H8)(k wt:BitVec 32):H8 :=
 let x:=s.h+(rr s.e 6^^^rr s.e 11^^^rr s.e 25)+(s.e&&&s.f^^^ ~~~ s.e&&&s.g)+k+wt
 let y:=rr s.a 2^^^rr s.a 13^^^rr s.a 22
 ⟨x+(y+(s.a&&&s.b^^^s.a&&&s.c^^^s.b&&&s.c)),s.a,s.b,s.c,s.d+x,s.e,s.f,s.g⟩
def zbz (s:H8)(ws:Ws):Nat->H8
 | 0=>s
 | t+1=>zgs (zbz s ws t) (kList.getD t 0) (ws.getD t 0)
def addH (s v:H8):H8:=⟨s.a+v.a,s.b+v.b,s.c+v.c,s.d+v.d,s.e+v.e,s.f+v.f,s.g+v.g,s.h+v.h⟩
def znh (s:H8)(b:List UInt8):H8:=addH s (zbz s (zbq b 64) 64)
theorem z5r {n:Nat}(h:2<=n)(nb:Bool){b:List UInt8}(hb:b.length=64):call gl tab n 126 [.lst nb .sc (zad b)] []=some (.agg (wsAV (zbq b 64)),[],[]):=by
 obtain⟨d,rfl⟩:=wB h
 exact z5q d nb b hb
theorem mix1 (d:Nat)(x:BitVec 32):call gl tab (d+2) 127 [u32 x,.int .i64 6,.int .i64 11,.int .i64 25] []=some (u32 (rr x 6^^^rr x 11^^^rr x 25),[],[]) :=
 z9w d x 6 11 25 (by omega) (by omega) (by omega) (by omega) (by omega) (by omega)
theorem mix2 (d:Nat)(x:BitVec 32):call gl tab (d+2) 127 [u32 x,.int .i64 2,.int .i64 13,.int .i64 22] []=some (u32 (rr x 2^^^rr x 13^^^rr x 22),[],[]) :=
 z9w d x 2 13 22 (by omega) (by omega) (by omega) (by omega) (by omega) (by omega)
theorem z91 (n:Nat)(h:n<64):kA[n]? =some (u32 (kList.getD n 0)):=by
 unfold kA
 rw[List.getElem?_map,List.getD_eq_getElem?_getD,List.getElem?_eq_getElem (by simpa[kList]using h)];rfl
theorem z90 :kA.length=64:=rfl
theorem z92 :kA.all AV.scalar=true:=by
 rw[wQ];intro x hx
 obtain⟨y,_,rfl⟩:=wR.1 hx;rfl
def zrp (s v:H8):Nat->H8
 | 0=>s
 | 1=>⟨s.a+v.a,s.b,s.c,s.d,s.e+v.e,s.f,s.g,s.h⟩
 | 2=>⟨s.a+v.a,s.b+v.b,s.c,s.d,s.e+v.e,s.f+v.f,s.g,s.h⟩
 | 3=>⟨s.a+v.a,s.b+v.b,s.c+v.c,s.d,s.e+v.e,s.f+v.f,s.g+v.g,s.h⟩
 | _+4=>addH s v
theorem wl1 :IntKind.wrap .i64 1=1:=by decide
theorem wl2 :IntKind.wrap .i64 2=2:=by decide
theorem wl3 :IntKind.wrap .i64 3=3:=by decide
theorem wl4 :IntKind.wrap .i64 4=4:=by decide
theorem wl5 :IntKind.wrap .i64 5=5:=by decide
theorem wl6 :IntKind.wrap .i64 6=6:=by decide
theorem wl7 :IntKind.wrap .i64 7=7:=by decide
theorem notc (x:BitVec 32):@HXor.hXor (BitVec 32) (BitVec 32) (BitVec 32) (@instHXorOfXorOp (BitVec (IntKind.bits .u32)) (@BitVec.instXorOp (IntKind.bits .u32))) (BitVec.ofInt 32 (if IntKind.u32.signed=true then -1 else IntKind.u32.max)) x= ~~~ x:=by
 have:BitVec.ofInt 32 (if IntKind.u32.signed=true then -1 else IntKind.u32.max)=BitVec.allOnes 32:=by decide
 show BitVec.ofInt 32 (if IntKind.u32.signed=true then -1 else IntKind.u32.max)^^^x= ~~~ x
 rw[this,BitVec.allOnes_xor]
abbrev z8 :AV:=.agg [.int .u32 0,.int .u32 0,.int .u32 0,.int .u32 0,.int .u32 0,.int .u32 0,.int .u32 0,.int .u32 0]
def L47 :MC:=match m120 with
 | .seq _ (.seq _ (.seq _ (.seq (.seq _ (.block _ (.loop _ b))) _)))=>b
 | _=>.skip
def L47b :MC:=match m120 with
 | .seq _ (.seq _ (.seq _ (.seq _ (.seq (.seq _ (.block _ (.loop _ b))) _))))=>b
 | _=>.skip
def K47 :List Kp:=[.slot 2,.slot 4,.slot 5,.slot 6,.slot 7,.slot 21,.slot 22,.key 2,.key 4,.key 5,.key 6,.key 7]
theorem qgc (F:Ev.Cl)(m1:∀x:BitVec 32,F 127 [u32 x,.int .i64 6,.int .i64 11,.int .i64 25] []=some (u32 (rr x 6^^^rr x 11^^^rr x 25),[],[]))(m2:∀x:BitVec 32,F 127 [u32 x,.int .i64 2,.int .i64 13,.int .i64 22] []=some (u32 (rr x 2^^^rr x 13^^^rr x 22),[],[]))(s:H8)(ws:Ws)(hl:ws.length=64)(t:Nat)(ht:t<64)(v:H8)(k x:BitVec 32)(hk:kA[t]? =some (u32 k))(hx:(wsAV ws)[t]? =some (u32 x)) :
  za1 K47 (evC gl F L47 ⟨[.set 22 (.int .i64 t),.set 21 (.agg kA),.set 7 (.ptr 7 []),.set 6 (.ptr 6 []),.set 5 (.ptr 5 []),.set 4 (.ptr 4 []),.set 2 (.ptr 2 [])],
   [(7,.fix (.ar 4 .sc) (.agg [u32 v.e,u32 v.f,u32 v.g,u32 v.h])),(6,.fix (.ar 4 .sc) (.agg [u32 v.a,u32 v.b,u32 v.c,u32 v.d])),(5,.fix (.ar 64 .sc) (.agg (wsAV ws))),(4,.fix (.ar 8 .sc) z8),(2,.fix (.ar 8 .sc) s.av)]⟩)
  = some ⟨[.set 22 (.int .i64 ((t+1:Nat):Int)),.set 21 (.agg kA),.set 7 (.ptr 7 []),.set 6 (.ptr 6 []),.set 5 (.ptr 5 []),.set 4 (.ptr 4 []),.set 2 (.ptr 2 [])],
    [(7,.fix (.ar 4 .sc) (.agg [u32 (zgs v k x).e,u32 (zgs v k x).f,u32 (zgs v k x).g,u32 (zgs v k x).h])),(6,.fix (.ar 4 .sc) (.agg [u32 (zgs v k x).a,u32 (zgs v k x).b,u32 (zgs v k x).c,u32 (zgs v k x).d])),(5,.fix (.ar 64 .sc) (.agg (wsAV ws))),(4,.fix (.ar 8 .sc) z8),(2,.fix (.ar 8 .sc) s.av)]⟩:=by
 obtain⟨va,vb,vc,vd,ve,vf,vg,vh⟩:=v
 simp only[L47,m120,K47,z8,H8.av,go_sem,simprocAttr,↓Nat.reduceEqDiff,ht,hk,hx,z90,z92,zca,hl,m1,m2,notc,zdz (show t<2^62 by omega),zgs]
def K47b :List Kp:=[.slot 2,.slot 4,.slot 6,.slot 7,.slot 94,.key 2,.key 4,.key 6,.key 7]
def S47b (s v:H8)(i:Nat):St :=
 ⟨[.set 94 (.int .i64 i),.set 7 (.ptr 7 []),.set 6 (.ptr 6 []),.set 4 (.ptr 4 []),.set 2 (.ptr 2 [])],
  [(7,.fix (.ar 4 .sc) (.agg [u32 v.e,u32 v.f,u32 v.g,u32 v.h])),(6,.fix (.ar 4 .sc) (.agg [u32 v.a,u32 v.b,u32 v.c,u32 v.d])),(4,.fix (.ar 8 .sc) z8),(2,.fix (.ar 8 .sc) (zrp s v i).av)]⟩
theorem qbi (F:Ev.Cl)(s v:H8)(i:Nat)(hi:i<4):za1 K47b (evC gl F L47b (S47b s v i))=some (S47b s v (i+1)):=by
 match i,hi with
 | 0,_=>simp only[L47b,m120,K47b,z8,S47b,H8.av,go_sem,simprocAttr,↓Nat.reduceEqDiff,zrp,wl1,wl4]
 | 1,_=>simp only[L47b,m120,K47b,z8,S47b,H8.av,go_sem,simprocAttr,↓Nat.reduceEqDiff,zrp,wl2,wl5]
 | 2,_=>simp only[L47b,m120,K47b,z8,S47b,H8.av,go_sem,simprocAttr,↓Nat.reduceEqDiff,zrp,wl3,wl6]
 | 3,_=>simp only[L47b,m120,K47b,z8,S47b,H8.av,go_sem,simprocAttr,↓Nat.reduceEqDiff,zrp,addH,wl4,wl7]
theorem qag (F:Ev.Cl)(s v:H8):evC gl F L47b (S47b s v 4)=some (.exit 2,⟨.set 95 (.bool false)::(S47b s v 4).fr,(S47b s v 4).hp⟩):=by
 simp only[L47b,m120,z8,S47b,H8.av,go_sem,simprocAttr,↓Nat.reduceEqDiff,zrp]
def S47 (s:H8)(ws:Ws)(t:Nat):St :=
 ⟨[.set 22 (.int .i64 t),.set 21 (.agg kA),.set 7 (.ptr 7 []),.set 6 (.ptr 6 []),.set 5 (.ptr 5 []),.set 4 (.ptr 4 []),.set 2 (.ptr 2 [])],
  [(7,.fix (.ar 4 .sc) (.agg [u32 (zbz s ws t).e,u32 (zbz s ws t).f,u32 (zbz s ws t).g,u32 (zbz s ws t).h])),(6,.fix (.ar 4 .sc) (.agg [u32 (zbz s ws t).a,u32 (zbz s ws t).b,u32 (zbz s ws t).c,u32 (zbz s ws t).d])),(5,.fix (.ar 64 .sc) (.agg (wsAV ws))),
   (4,.fix (.ar 8 .sc) z8),(2,.fix (.ar 8 .sc) s.av)]⟩
theorem qiw (F:Ev.Cl)(s:H8)(ws:Ws):evC gl F L47 (S47 s ws 64)=some (.exit 0,⟨.set 23 (.bool false)::(S47 s ws 64).fr,(S47 s ws 64).hp⟩):=by
 unfold S47
 generalize zbz s ws 64=v
 simp only[L47,m120,z8,H8.av,go_sem,simprocAttr,↓Nat.reduceEqDiff]
theorem qhp (F:Ev.Cl)(m1:∀x:BitVec 32,F 127 [u32 x,.int .i64 6,.int .i64 11,.int .i64 25] []=some (u32 (rr x 6^^^rr x 11^^^rr x 25),[],[]))(m2:∀x:BitVec 32,F 127 [u32 x,.int .i64 2,.int .i64 13,.int .i64 22] []=some (u32 (rr x 2^^^rr x 13^^^rr x 22),[],[]))
  (s:H8) (ws:Ws) (hl:ws.length=64) (st:St) (h0:zcr K47 st=some (S47 s ws 0)):iter (evC gl F L47) K47 LF st=some (.exit 0,⟨.set 23 (.bool false)::(S47 s ws 64).fr,(S47 s ws 64).hp⟩):=by
 rw[zaj (S47 s ws) 64 (by unfold LF;omega) h0 (fun t ht=> ?_) (by rw[qiw];rfl),qiw]
 have:=qgc (gl:=gl) F m1 m2 s ws hl t ht (zbz s ws t) (kList.getD t 0) (ws.getD t 0) (z91 t ht) (zcm (by omega))
 unfold S47
 rw[this,zbz]
theorem qdf (F:Ev.Cl)(s v:H8)(st:St)(h0:zcr K47b st=some (S47b s v 0)):iter (evC gl F L47b) K47b LF st=some (.exit 2,⟨.set 95 (.bool false)::(S47b s v 4).fr,(S47b s v 4).hp⟩):=by
 rw[zaj (S47b s v) 4 (by unfold LF;omega) h0 (fun i hi=>qbi F s v i hi) (by rw[qag];rfl),qag]
theorem qjd (F:Ev.Cl)(nb:Bool)(s:H8)(b:List UInt8)(ws:Ws)(hl:ws.length=64)(c51:F 126 [.lst nb .sc (zad b)] []=some (.agg (wsAV ws),[],[]))
  (m1:∀x:BitVec 32,F 127 [u32 x,.int .i64 6,.int .i64 11,.int .i64 25] []=some (u32 (rr x 6^^^rr x 11^^^rr x 25),[],[])) (m2:∀x:BitVec 32,F 127 [u32 x,.int .i64 2,.int .i64 13,.int .i64 22] []=some (u32 (rr x 2^^^rr x 13^^^rr x 22),[],[])) :
  finK fd120.res fd120.pk (evC gl F fd120.body {fr:=frOf 0 [s.av,.lst nb .sc (zad b)],hp:=[]})=some ((addH s (zbz s ws 64)).av,[],[]):=by
 have e:=qhp (gl:=gl) F m1 m2 s ws hl
 have e2:=qdf (gl:=gl) F s (zbz s ws 64)
 simp only[L47,m120,K47]at e
 simp only[L47b,m120,K47b]at e2
 simp only[fd120,m120,H8.av,go_sem,simprocAttr,↓Nat.reduceEqDiff,c51,zca,hl,zu1,glK]
 rw[e _ (by simp only[S47,z8,H8.av,go_sem,simprocAttr,↓Nat.reduceEqDiff,zbz])]
 unfold S47
 generalize zbz s ws 64=v at *
 simp only[z8,H8.av,go_sem,simprocAttr,↓Nat.reduceEqDiff]
 rw[e2 _ (by simp only[S47b,z8,H8.av,go_sem,simprocAttr,↓Nat.reduceEqDiff,zrp])]
 simp only[S47b,z8,H8.av,go_sem,simprocAttr,↓Nat.reduceEqDiff,zrp]
theorem qe1 (d:Nat)(nb:Bool)(s:H8)(b:List UInt8)(hb:b.length=64):call gl tab (d+3) 120 [s.av,.lst nb .sc (zad b)] []=some ((znh s b).av,[],[]) :=
 (zaf (n:=d+2) (fd:=fd120) rfl).trans (qjd (call gl tab (d+2)) nb s b (zbq b 64) (za4 b 64) (z5r (by omega) nb hb) (mix1 d) (mix2 d))
end Go.Proofs.S97.H
namespace Go.Proofs.S97.H
open Go Go.Ev Go.Proofs Go.Proofs.S97
variable {gl :Gl} [Nonempty (GlK gl)]
structure Sm where
 h:H8
 blk:List UInt8
 n:Nat
def Sm.av (s:Sm):AV:=.agg [s.h.av,.agg (zad s.blk),.int .u64 (s.n:Int)]
def za2 (s:Sm)(t:List UInt8):Nat:=min t.length (64-s.n%64)
def ze5 (s:Sm)(t:List UInt8):List UInt8:=s.blk.take (s.n%64)++t.take (za2 s t)++s.blk.drop (s.n%64+za2 s t)
def z4j (s:Sm)(t:List UInt8):Sm:=⟨if s.n%64+za2 s t=64 then znh s.h (ze5 s t)else s.h,ze5 s t,s.n+za2 s t⟩
def zst :AV:=.agg [z8,.agg (List.replicate 64 (.int .u8 0)),.int .u64 0]
theorem zov :zst.refs=[]:=by kernel_rfl
def L32 :MC:=match m115 with
 | .seq _ (.seq (.block _ (.loop _ b)) _)=>b
 | _=>.skip
def K32 :List Kp:=[.slot 1,.slot 2,.slot 4,.key 2,.key 4]
def S32 (s:Sm)(t:List UInt8):St :=
 ⟨[.set 4 (.ptr 4 []),.set 2 (.ptr 2 []),.set 1 (.str t)],[(4,.fix (.st [.ar 8 .sc,.ar 64 .sc,.sc]) zst),(2,.fix (.st [.ar 8 .sc,.ar 64 .sc,.sc]) s.av)]⟩
theorem remu (a:Nat):zam .rem .u64 (a:Int) 64=some (.int .u64 ((a%64:Nat):Int)):=by
 have h8:¬((64:Int)=0):=by decide
 simp only[zam,h8,if_false];rfl
theorem zkv (l:List UInt8)(k:Nat):(zad l).drop k=zad (l.drop k):=by simp[zad,List.map_drop]
theorem zhz (l:List UInt8)(k:Nat):(zad l).take k=zad (l.take k):=by simp[zad,List.map_take]
theorem zj9 (s:Sm)(t:List UInt8)(hb:s.blk.length=64):(ze5 s t).length=64:=by
 unfold ze5 za2
 simp only[wG,wP,wJ,hb]
 have:=wC s.n (show 0<64 by omega)
 omega
theorem qge (F:Ev.Cl)(s:Sm)(t:List UInt8)(hb:s.blk.length=64)(hn:s.n<2^62)(ht:t≠[])(htl:t.length<2^62)
  (c47:F 120 [s.h.av,.lst false .sc (zad (ze5 s t))] []=some ((znh s.h (ze5 s t)).av,[],[])) :
  za1 K32 (evC gl F L32 (S32 s t))=some (S32 (z4j s t) (t.drop (za2 s t))):=by
 have hat:s.n%64<64:=wC _ (by omega)
 have hne:(!(t==[]))=true:=by simp[ht]
 have hw1:IntKind.wrap .i64 ((s.n%64:Nat):Int)=((s.n%64:Nat):Int):=zay (by omega) (by omega)
 have hk:za2 s t=min t.length (64-s.n%64):=rfl
 have hk1:za2 s t<=t.length:=by rw[hk];exact wF _ _
 have hk2:s.n%64+za2 s t<=64:=by have:=wE t.length (64-s.n%64);omega
 have hBl:=zj9 s t hb
 have hadd:(BitVec.ofNat 64 s.n+BitVec.ofNat 64 (za2 s t)).toNat=s.n+za2 s t:=by
  rw[<-BitVec.ofNat_add,BitVec.toNat_ofNat,Nat.mod_eq_of_lt (by omega)]
 have hw2:IntKind.wrap .i64 (((s.n%64:Nat):Int)+((za2 s t:Nat):Int))=((s.n%64+za2 s t:Nat):Int):=by rw[zay (by omega) (by omega)];omega
 have hB:List.take (s.n%64) (zad s.blk)++(List.take (za2 s t) (zad t)++List.drop (s.n%64+za2 s t) (zad s.blk))=zad (ze5 s t):=by
  rw[zhz,zhz,zkv,<-zas,<-zas,ze5,wH]
 have hB':List.take (s.n%64) (zad s.blk)++List.take (za2 s t) (zad t)++List.drop (s.n%64+za2 s t) (zad s.blk)=zad (ze5 s t):=by rw[wH,hB]
 have hte:(zad t).isEmpty=false:=by
  cases t with
  | nil=>exact absurd rfl ht
  | cons a l=>rfl
 have hle:s.n%64<=64:=by omega
 have hof:s.n%64+(64-s.n%64)=64:=by omega
 have htk:(zad (ze5 s t)).take 64=zad (ze5 s t):=zqo hBl
 simp only[H8.av]at c47
 by_cases h64:s.n%64+za2 s t=64
 . have he:(((s.n%64+za2 s t:Nat):Int)==64)=true:=by rw[h64];rfl
   simp only[L32,m115,K32,S32,Sm.av,H8.av,go_sem,simprocAttr,↓Nat.reduceEqDiff,hne,remu,hw1,hb,hat,hle,hof,hte,zae,<-hk,hB',hw2,hadd,hk1,he,hBl,htk,c47,zov,z4j,if_pos h64]
 . have he:(((s.n%64+za2 s t:Nat):Int)==64)=false:=by rw[beq_eq_false_iff_ne];omega
   simp only[L32,m115,K32,S32,Sm.av,H8.av,go_sem,simprocAttr,↓Nat.reduceEqDiff,hne,remu,hw1,hb,hat,hle,hof,hte,zae,<-hk,hB',hw2,hadd,hk1,he,zov,z4j,if_neg h64]
theorem qmi (F:Ev.Cl)(s:Sm):isEx (evC gl F L32 (S32 s []))=true:=by
 simp only[L32,m115,S32,go_sem,simprocAttr,↓Nat.reduceEqDiff]
def rnd (s:Sm)(t:List UInt8):Nat->Sm×List UInt8
 | 0=>(s,t)
 | i+1=>(z4j (rnd s t i).1 (rnd s t i).2,(rnd s t i).2.drop (za2 (rnd s t i).1 (rnd s t i).2))
theorem zzh (s:Sm){t:List UInt8}(h:t≠[]):0<za2 s t:=by
 have:=wC s.n (show 0<64 by omega)
 have h1:0<t.length:=List.length_pos_iff.2 h
 unfold za2
 rcases Nat.le_total t.length (64-s.n%64)with e|e
 . rw[Nat.min_eq_left e];exact h1
 . rw[Nat.min_eq_right e];omega
theorem zsp (s:Sm)(t:List UInt8):za2 s t<=t.length:=by unfold za2;exact wF _ _
theorem z5w (s:Sm)(t:List UInt8):∃N,N<=t.length/\(rnd s t N).2=[]/\∀i,i<N->(rnd s t i).2≠[]:=by
 have key:∀k,(∃N,N<=k/\(rnd s t N).2=[]/\∀i,i<N->(rnd s t i).2≠[])\/(∀i,i<k+1->(rnd s t i).2≠[])/\(rnd s t k).2.length+k<=t.length:=by
  intro k
  induction k with
  | zero =>
    by_cases h:t=[]
    . left;exact⟨0,wD _,h,fun i hi=>absurd hi (Nat.not_lt_zero _)⟩
    . right
      refine⟨fun i hi=> ?_,wD _⟩
      have:i=0:=by omega
      subst this;exact h
  | succ k ih =>
    rcases ih with ⟨N,h1,h2,h3⟩|⟨h1,h2⟩
    . left;exact⟨N,by omega,h2,h3⟩
    . have hp:=zzh (rnd s t k).1 (h1 k (by omega))
      have hl:=zsp (rnd s t k).1 (rnd s t k).2
      have hlen:(rnd s t (k+1)).2.length+(k+1)<=t.length:=by
       show((rnd s t k).2.drop _).length+_<=_
       rw[wJ];omega
      by_cases he:(rnd s t (k+1)).2=[]
      . left;exact⟨k+1,wD _,he,fun i hi=>h1 i (by omega)⟩
      . right
        refine⟨fun i hi=> ?_,hlen⟩
        by_cases e:i=k+1
        . subst e;exact he
        . exact h1 i (by omega)
 rcases key t.length with ⟨N,h1,h2,h3⟩|⟨h1,h2⟩
 . exact⟨N,h1,h2,h3⟩
 . exact absurd (List.length_eq_zero_iff.1 (by omega)) (h1 t.length (by omega))
def zc9 (m:List UInt8)(k:Nat):List UInt8:=(m.drop (64*k)).take 64
def zc3 (m:List UInt8):Nat->H8
 | 0=>⟨0x6a09e667#32,0xbb67ae85#32,0x3c6ef372#32,0xa54ff53a#32,0x510e527f#32,0x9b05688c#32,0x1f83d9ab#32,0x5be0cd19#32⟩
 | k+1=>znh (zc3 m k) (zc9 m k)
def Reps (s:Sm)(m:List UInt8):Prop :=
 s.n=m.length/\s.blk.length=64/\s.blk.take (m.length%64)=m.drop (64*(m.length/64))/\s.h=zc3 m (m.length/64)
theorem zm8 (m t:List UInt8)(k:Nat)(h:64*k<=m.length):zc3 (m++t) k=zc3 m k:=by
 induction k with
 | zero=>rfl
 | succ k ih =>
   rw[zc3,zc3,ih (by omega)]
   congr 1
   unfold zc9
   rw[wL (by omega),wK (by rw[wJ];omega)]
theorem zxp {s:Sm}{m:List UInt8}(h:Reps s m)(t:List UInt8):Reps (z4j s t) (m++t.take (za2 s t)):=by
 obtain⟨h1,h2,h3,h4⟩:=h
 have hr:m.length%64<64:=wC _ (by omega)
 have hK1:=zsp s t
 have hK2:m.length%64+za2 s t<=64:=by
  have:za2 s t<=64-s.n%64:=by unfold za2;exact wE _ _
  rw[h1]at this;omega
 have hu:(t.take (za2 s t)).length=za2 s t:=by rw[wP];omega
 have hB:ze5 s t=m.drop (64*(m.length/64))++t.take (za2 s t)++s.blk.drop (m.length%64+za2 s t):=by
  unfold ze5;rw[h1,h3]
 have hdl:(m.drop (64*(m.length/64))).length=m.length%64:=by rw[wJ];omega
 have hl:(m++t.take (za2 s t)).length=m.length+za2 s t:=by rw[wG,hu]
 have hdr:(m++t.take (za2 s t)).drop (64*(m.length/64))=m.drop (64*(m.length/64))++t.take (za2 s t):=wL (by omega)
 refine⟨by show s.n+_=_;rw[hl,h1],zj9 s t h2,?_,?_⟩
 . show(ze5 s t).take _=_
   by_cases h64:m.length%64+za2 s t=64
   . have e1:(m++t.take (za2 s t)).length%64=0:=by rw[hl];omega
     have e2:(m++t.take (za2 s t)).length<=64*((m++t.take (za2 s t)).length/64):=by rw[hl];omega
     rw[e1,List.take_zero,wO e2]
   . have e1:(m++t.take (za2 s t)).length%64=m.length%64+za2 s t:=by rw[hl];omega
     have e2:(m++t.take (za2 s t)).length/64=m.length/64:=by rw[hl];omega
     rw[e1,e2,hdr,hB,wK (by rw[wG,hdl,hu];omega),wN (by rw[wG,hdl,hu];omega)]
 . show(if s.n%64+za2 s t=64 then znh s.h (ze5 s t)else s.h)=_
   by_cases h64:m.length%64+za2 s t=64
   . have e2:(m++t.take (za2 s t)).length/64=m.length/64+1:=by rw[hl];omega
     rw[h1,if_pos h64,e2,zc3,zm8 _ _ _ (by omega),h4]
     congr 1
     unfold zc9
     have hd:s.blk.drop 64=[]:=wO (by omega)
     rw[hdr,hB,h64,hd,wM]
     exact(wN (by rw[wG,hdl,hu];omega)).symm
   . have e2:(m++t.take (za2 s t)).length/64=m.length/64:=by rw[hl];omega
     rw[h1,if_neg h64,e2,zm8 _ _ _ (by omega),h4]
theorem zvm {s:Sm}{m:List UInt8}(h:Reps s m)(t:List UInt8)(i:Nat):∃u,t=u++(rnd s t i).2/\Reps (rnd s t i).1 (m++u):=by
 induction i with
 | zero=>exact⟨[],rfl,by rw[wM];exact h⟩
 | succ i ih =>
   obtain⟨u,h1,h2⟩:=ih
   refine⟨u++(rnd s t i).2.take (za2 (rnd s t i).1 (rnd s t i).2),?_,?_⟩
   . show t=_++(rnd s t i).2.drop _
     rw[wH,List.take_append_drop];exact h1
   . rw[<-wH]
     exact zxp h2 _
theorem bytes_all (l:List UInt8):(zad l).all AV.scalar=true:=by
 rw[wQ];intro x hx
 obtain⟨y,_,rfl⟩:=wR.1 hx;rfl
theorem qe2 {n:Nat}(h:3<=n)(nb:Bool)(s:H8){b:List UInt8}(hb:b.length=64):call gl tab n 120 [s.av,.lst nb .sc (zad b)] []=some ((znh s b).av,[],[]):=by
 obtain⟨d,rfl⟩:=wB h
 exact qe1 d nb s b hb
theorem qhs (F:Ev.Cl)(c47:∀(h:H8) (b:List UInt8),b.length=64->F 120 [h.av,.lst false .sc (zad b)] []=some ((znh h b).av,[],[]))(s:Sm)(m t:List UInt8)(hs:Reps s m)(hm:m.length+t.length<2^60) :
  ∃s',Reps s' (m++t)/\∀st,zcr K32 st=some (S32 s t)->iter (evC gl F L32) K32 LF st=evC gl F L32 (S32 s' []):=by
 obtain⟨N,hN,hend,hbefore⟩:=z5w s t
 obtain⟨u,hu,hr⟩:=zvm hs t N
 rw[hend,wM]at hu
 subst hu
 refine⟨(rnd s t N).1,hr,fun st h0=> ?_⟩
 rw[zaj (fun i=>S32 (rnd s t i).1 (rnd s t i).2) N (by unfold LF;omega) h0 (fun i hi=> ?_) (by rw[hend];exact qmi F _),hend]
 obtain⟨v,hv,hr'⟩:=zvm hs t i
 have hlen:=congrArg List.length hv
 rw[wG]at hlen
 refine qge F _ _ hr'.2.1 ?_ (hbefore i hi) (by omega) (c47 _ _ (zj9 _ _ hr'.2.1))
 rw[hr'.1,wG];omega
theorem qfn (F:Ev.Cl)(c47:∀(h:H8) (b:List UInt8),b.length=64->F 120 [h.av,.lst false .sc (zad b)] []=some ((znh h b).av,[],[]))(s:Sm)(m t:List UInt8)(hs:Reps s m)(hm:m.length+t.length<2^60) :
  ∃s',Reps s' (m++t)/\finK fd115.res fd115.pk (evC gl F fd115.body {fr:=frOf 0 [s.av,.str t],hp:=[]})=some (s'.av,[],[]):=by
 have hz:AV.agg [.agg [.int .u32 0,.int .u32 0,.int .u32 0,.int .u32 0,.int .u32 0,.int .u32 0,.int .u32 0,.int .u32 0],.agg (List.replicate 64 (.int .u8 0)),.int .u64 0]=zst:=rfl
 obtain⟨s',hr,e⟩:=qhs (gl:=gl) F c47 s m t hs hm
 refine⟨s',hr,?_⟩
 simp only[L32,m115,K32]at e
 have hl:=hs.2.1
 have hl':=hr.2.1
 simp only[fd115,m115,hz,Sm.av,H8.av,go_sem,simprocAttr,↓Nat.reduceEqDiff,zae,bytes_all,hl]
 rw[e _ (by simp only[S32,Sm.av,H8.av,go_sem,simprocAttr,↓Nat.reduceEqDiff,zov];rfl)]
 simp only[S32,Sm.av,H8.av,go_sem,simprocAttr,↓Nat.reduceEqDiff,zae,bytes_all,hl']
theorem zth {n:Nat}(h:4<=n)(s:Sm)(m t:List UInt8)(hs:Reps s m)(hm:m.length+t.length<2^60):∃s',Reps s' (m++t)/\call gl tab n 115 [s.av,.str t] []=some (s'.av,[],[]):=by
 obtain⟨d,rfl⟩:=wB h
 obtain⟨s',hr,e⟩:=qfn (gl:=gl) (call gl tab (d+3)) (fun x b hb=>qe2 (by omega) false x hb) s m t hs hm
 exact⟨s',hr,(zaf (n:=d+3) (fd:=fd115) rfl).trans e⟩
def s0 :Sm:=⟨zc3 [] 0,List.replicate 64 0,0⟩
theorem qko :Reps s0 []:=⟨rfl,by simp[s0],by simp[s0],rfl⟩
theorem qkh :s0.av= .agg [.agg [.int .u32 1779033703,.int .u32 3144134277,.int .u32 1013904242,.int .u32 2773480762,.int .u32 1359893119,.int .u32 2600822924,.int .u32 528734635,.int .u32 1541459225],.agg (List.replicate 64 (.int .u8 0)),.int .u64 0]:=by kernel_rfl
theorem z0r (d:Nat):call gl tab (d+1) 114 [] []=some (s0.av,[],[]):=by
 rw[zaf (fd:=z78) rfl,qkh]
 simp only[z78,m114,go_sem,simprocAttr,↓Nat.reduceEqDiff]
theorem z0s {n:Nat}(h:1<=n):call gl tab n 114 [] []=some (s0.av,[],[]):=by
 obtain⟨d,rfl⟩:=wB h
 exact z0r d
end Go.Proofs.S97.H
