/-
  The specification's hash: its parts. No condition.
-/
import Derived.Test.YtcddalfeicoedaaGreatDoorW44G3x3
set_option linter.all false
open List renaming length_append->wA,append_assoc->wB
namespace Go.Proofs.S44.H
open Go Go.Ev Go.Proofs Go.Proofs.S44
variable {gl :Gl}
theorem ze8 (d:Nat)(x:BitVec 32)(i:Nat)(h0:0<i)(h:i<32):call gl tab (d+1) 173 [u32 x,.int .i64 (i:Int)] []=some (u32 (rr x i),[],[]):=by
 have hw1:IntKind.wrap .i64 (32-(i:Int))=((32-i:Nat):Int):=by rw[zax (by omega) (by omega)];omega
 have e:x>>>i|||x<<<(32-i)=rr x i:=BitVec.or_comm _ _
 rw[zad (fd:=z5u) rfl]
 simp only[z5u,m173,go_sem,simprocAttr,↓Nat.reduceEqDiff,hw1,e]
def S44 (nb:Bool)(m:List UInt8)(p:List UInt8):St :=
 ⟨[.set 3 (.sl 5003 [] 0 p.length),.set 0 (.lst nb .sc (zac m))],[(5003,.grow .sc (zac p))]⟩
def S44b (x:BitVec 64)(p:List UInt8)(i:Nat):St :=
 ⟨[.set 5 (.int .i64 i),.set 4 (u64 x),.set 3 (.sl 5003 [] 0 p.length)],[(5003,.grow .sc (zac p))]⟩
theorem zz7 (d:Nat)(nb:Bool)(m:List UInt8)(hm:m.length<2^34):call gl tab (d+1) 171 [.lst nb .sc (zac m)] []=some (.sl 20000 [] 0 (m++padF m.length).length,[],[.grow .sc (zac (m++padF m.length))]):=by
 have hz:padZ m.length<64:=Nat.mod_lt _ (by omega)
 have hl1 (i:Nat):(m++pad1 i).length=m.length+(i+1):=by rw[wA,zez]
 have hX:(BitVec.ofNat 64 8*BitVec.ofNat 64 m.length)=BitVec.ofNat 64 (8*m.length):=by rw[BitVec.ofNat_mul]
 have hL0:m.length<=LIM:=by unfold LIM;omega
 have hb1:zac m++[.int .u8 128]=zac (m++pad1 0):=by rw[zaf];rfl
 rw[zad (fd:=z5w) rfl]
 simp only[z5w,m171,go_sem,simprocAttr,↓Nat.reduceEqDiff,zab,hL0,zhq (show m.length<2^36 by omega),hb1]
 rw[zag (fun i=>S44 nb m (m++pad1 i)) (padZ m.length) (by unfold LF;omega)]
 . have hne:(m.length+(padZ m.length+1))%64=56:=by unfold padZ;omega
   have hb:((((m.length+(padZ m.length+1))%64:Nat):Int) != 56)=false:=by rw[hne];rfl
   have hrem:zar .rem .i64 ((m.length+(padZ m.length+1):Nat):Int) 64=some (.int .i64 (((m.length+(padZ m.length+1))%64:Nat):Int)):=zjb _ 64 (by omega)
   simp only[S44,go_sem,simprocAttr,↓Nat.reduceEqDiff,hl1,hrem,hb,zab,hX]
   rw[zag (fun i=>S44b (BitVec.ofNat 64 (8*m.length)) (m++pad1 (padZ m.length)++lenB m.length i) i) 8 (by unfold LF;omega)]
   . have hlf:(m++pad1 (padZ m.length)++lenB m.length 8).length=(m++padF m.length).length:=by rw[wB];rfl
     have hbf:zac (m++pad1 (padZ m.length)++lenB m.length 8)=zac (m++padF m.length):=by rw[wB];rfl
     show finK _ _ (seqK _ _ _ (zn7 2 (evC _ _ _ (S44b (BitVec.ofNat 64 (8*m.length)) (m++pad1 (padZ m.length)++lenB m.length 8) 8))))=_
     unfold S44b
     rw[hlf,hbf,show m.length+(padF m.length).length=(m++padF m.length).length from(wA).symm]
     generalize m++padF m.length=Q
     simp only[go_sem,simprocAttr,↓Nat.reduceEqDiff,zab]
   . have h00:m++pad1 (padZ m.length)++lenB m.length 0=m++pad1 (padZ m.length):=List.append_nil _
     simp only[S44b,go_sem,simprocAttr,↓Nat.reduceEqDiff,h00,hl1,zab]
   . intro i hi
     have hw1:IntKind.wrap .i64 (8*(i:Int))=((8*i:Nat):Int):=by rw[zax (by omega) (by omega)];omega
     have hw2:IntKind.wrap .i64 (56-((8*i:Nat):Int))=((56-8*i:Nat):Int):=by rw[zax (by omega) (by omega)];omega
     have hp:=hl1 (padZ m.length)
     generalize m++pad1 (padZ m.length)=p at *
     have e:zac (p++lenB m.length (i+1))=zac (p++lenB m.length i)++[.int .u8 ((((BitVec.ofNat 64 (8*m.length)>>>(56-8*i:Nat)).setWidth 8).toNat:Nat):Int)]:=by
      rw[zrk,<-wB,zaf];rfl
     have hl:(p++lenB m.length i).length=p.length+i:=by rw[wA,zhg]
     have hl':(p++lenB m.length (i+1)).length=p.length+i+1:=by rw[wA,zhg];omega
     show zbd _ (evC _ _ _ (S44b (BitVec.ofNat 64 (8*m.length)) (p++lenB m.length i) i))=some (S44b (BitVec.ofNat 64 (8*m.length)) (p++lenB m.length (i+1)) (i+1))
     generalize BitVec.ofNat 64 (8*m.length)=X at *
     unfold S44b
     rw[e,hl,hl']
     generalize p++lenB m.length i=P at *
     simp only[go_sem,simprocAttr,↓Nat.reduceEqDiff,hi,hw1,hw2,hl,zab,zhq (show p.length+i<2^36 by omega),zdx (show i<2^62 by omega)]
   . simp only[S44b,go_sem,simprocAttr,↓Nat.reduceEqDiff]
 . simp only[S44,go_sem,simprocAttr,↓Nat.reduceEqDiff,hl1]
 . intro i hi
   have hne:(m.length+(i+1))%64≠56:=by unfold padZ at *;omega
   have hb:((((m.length+(i+1))%64:Nat):Int) != 56)=true:=by rw[bne_iff_ne];omega
   have hrem:zar .rem .i64 ((m.length+(i+1):Nat):Int) 64=some (.int .i64 (((m.length+(i+1))%64:Nat):Int)):=zjb _ 64 (by omega)
   have e:zac (m++pad1 (i+1))=zac (m++pad1 i)++[.int .u8 0]:=by rw[zaf,zrb,<-wB,<-zaf]
   show zbd _ (evC _ _ _ (S44 nb m (m++pad1 i)))=some (S44 nb m (m++pad1 (i+1)))
   unfold S44
   rw[e,hl1,hl1]
   have hl:=hl1 i
   generalize m++pad1 i=P at *
   simp only[go_sem,simprocAttr,↓Nat.reduceEqDiff,hl,zab,hrem,hb,zhq (show m.length+(i+1)<2^36 by omega)]
   rfl
 . have hne:(m.length+(padZ m.length+1))%64=56:=by unfold padZ;omega
   have hb:((((m.length+(padZ m.length+1))%64:Nat):Int) != 56)=false:=by rw[hne];rfl
   have hrem:zar .rem .i64 ((m.length+(padZ m.length+1):Nat):Int) 64=some (.int .i64 (((m.length+(padZ m.length+1))%64:Nat):Int)):=zjb _ 64 (by omega)
   simp only[S44,go_sem,simprocAttr,↓Nat.reduceEqDiff,hl1,hrem,hb]
end Go.Proofs.S44.H
namespace Go.Proofs.S44.H
open Go Go.Ev Go.Proofs Go.Proofs.S44
variable {gl :Gl}
theorem qh0 (d:Nat)(x:BitVec 32):call gl tab (d+1) 173 [u32 x,.int .i64 7] []=some (u32 (rr x 7),[],[]):=ze8 d x 7 (by omega) (by omega)
theorem qef (d:Nat)(x:BitVec 32):call gl tab (d+1) 173 [u32 x,.int .i64 18] []=some (u32 (rr x 18),[],[]):=ze8 d x 18 (by omega) (by omega)
theorem qeg (d:Nat)(x:BitVec 32):call gl tab (d+1) 173 [u32 x,.int .i64 17] []=some (u32 (rr x 17),[],[]):=ze8 d x 17 (by omega) (by omega)
theorem qee (d:Nat)(x:BitVec 32):call gl tab (d+1) 173 [u32 x,.int .i64 19] []=some (u32 (rr x 19),[],[]):=ze8 d x 19 (by omega) (by omega)
def S45 (nb:Bool)(b:List UInt8)(t:Nat):St :=
 ⟨[.set 4 (.int .i64 t),.set 3 (.ptr 3 []),.set 2 (.ptr 2 []),.set 0 (.lst nb .sc (zac b))],[(3,.fix (.ar 64 .sc) (.agg (wsAV (zbu b t)))),(2,.fix (.ar 64 .sc) zer64)]⟩
def S45b (b:List UInt8)(t:Nat):St :=
 ⟨[.set 5 (.int .i64 t),.set 3 (.ptr 3 []),.set 2 (.ptr 2 [])],[(3,.fix (.ar 64 .sc) (.agg (wsAV (zbu b t)))),(2,.fix (.ar 64 .sc) zer64)]⟩
theorem zyu (d:Nat)(nb:Bool)(b:List UInt8)(hb:b.length=64):call gl tab (d+2) 172 [.lst nb .sc (zac b)] []=some (.agg (wsAV (zbu b 64)),[],[]):=by
 have hz:AV.agg (List.replicate 64 (.int .u32 0))=zer64:=rfl
 rw[zad (fd:=z5v) rfl]
 simp only[z5v,m172,hz,go_sem,simprocAttr,↓Nat.reduceEqDiff]
 rw[zag (S45 nb b) 16 (by unfold LF;omega)]
 . simp(disch:=apply zq;omega) only[go_sem,simprocAttr,↓Nat.reduceEqDiff,xx,S45]
   rw[zag (fun i=>S45b b (16+i)) 48 (by unfold LF;omega)]
   . simp(disch:=apply zq;omega) only[go_sem,simprocAttr,↓Nat.reduceEqDiff,xx,S45b,zb8,za9,zua]
   . simp(disch:=apply zq;omega) only[go_sem,simprocAttr,↓Nat.reduceEqDiff,xx,S45b]
     rfl
   . intro i hi
     show zbd _ (evC _ _ _ (S45b b (16+i)))=some (S45b b (16+i+1))
     obtain⟨t,rfl⟩:∃t,t=16+i:=⟨_,rfl⟩
     generalize ht:16+i=t at *
     have g15:=zcl (l:=zbu b t) (i:=t-15) (by rw[za9];omega)
     have g2:=zcl (l:=zbu b t) (i:=t-2) (by rw[za9];omega)
     have g7:=zcl (l:=zbu b t) (i:=t-7) (by rw[za9];omega)
     have g6:=zcl (l:=zbu b t) (i:=t-16) (by rw[za9];omega)
     have gt:=zcl (l:=zbu b t) (i:=t) (by rw[za9];omega)
     have h16:¬t<16:=by omega
     simp(disch:=apply zq;omega) only[go_sem,simprocAttr,↓Nat.reduceEqDiff,xx,S45b,zej,gt,g15,g2,g7,g6,zb8,za9,qh0,qef,qeg,qee,zbu,zia,qap]
   . simp(disch:=apply zq;omega) only[go_sem,simprocAttr,↓Nat.reduceEqDiff,xx,S45b]
 . simp(disch:=apply zq;omega) only[go_sem,simprocAttr,↓Nat.reduceEqDiff,xx,S45]
   rfl
 . intro t ht
   have gt:=zcl (l:=zbu b t) (i:=t) (by rw[za9];omega)
   simp(disch:=apply zq;omega) only[go_sem,simprocAttr,↓Nat.reduceEqDiff,xx,S45,zej,gt,zab,zd6,hb,zb8,za9,zbu,zia,word,bt]
 . simp(disch:=apply zq;omega) only[go_sem,simprocAttr,↓Nat.reduceEqDiff,xx,S45]
end Go.Proofs.S44.H
namespace Go.Proofs.S44.H
open Go Go.Ev Go.Proofs Go.Proofs.S44
variable {gl :Gl} [Nonempty (GlR gl)]
theorem qj6 (x:BitVec 32):x^^^4294967295#32= ~~~ x:=by
 have:(4294967295#32:BitVec 32)=BitVec.allOnes 32:=by decide
 rw[this,BitVec.xor_allOnes]
def L30 :MC:=match m159 with
 | .seq _ (.seq _ (.seq _ (.seq (.seq _ (.block _ (.loop _ b))) _)))=>b
 | _=>.skip
def L30b :MC:=match L30 with
 | .seq _ (.seq (.block _ (.seq _ (.seq _ (.seq (.seq _ (.block _ (.loop _ b))) _)))) _)=>b
 | _=>.skip
def L30c :MC:=match L30 with
 | .seq _ (.seq (.block _ (.seq _ (.seq _ (.seq _ (.seq _ (.block _ (.loop _ b))))))) _)=>b
 | _=>.skip
def L30d :MC:=match m159 with
 | .seq _ (.seq _ (.seq _ (.seq _ (.seq _ (.seq (.seq _ (.block _ (.loop _ b))) _)))))=>b
 | _=>.skip
def K30 :List Kp:=[.slot 2,.slot 3,.slot 4,.slot 5,.key 2,.key 3,.key 16]
def K30b :List Kp:=[.slot 2,.slot 3,.slot 4,.slot 5,.slot 6,.slot 7,.slot 8,.key 2,.key 3,.key 6,.key 7,.key 16]
def K30c :List Kp:=[.slot 2,.slot 3,.slot 4,.slot 5,.slot 7,.slot 11,.key 2,.key 3,.key 7,.key 16]
def K30d :List Kp:=[.slot 2,.slot 3,.slot 12,.slot 13,.key 2,.key 3,.key 12]
def S30 (M:List UInt8)(s:H8)(a:Nat):St :=
 ⟨[.set 5 (.int .i64 a),.set 4 (.sl 16 [] 0 M.length),.set 3 (.ptr 3 []),.set 2 (.ptr 2 [])],
  [(16,.grow .sc (zac M)),(3,.fix (.ar 8 .sc) s.av),(2,.fix (.ar 32 .sc) out32)]⟩
def S30b (M:List UInt8)(s v:H8)(ws:Ws)(a t:Nat):St :=
 ⟨[.set 8 (.int .i64 t),.set 7 (.ptr 7 []),.set 6 (.ptr 6 []),.set 5 (.int .i64 a),.set 4 (.sl 16 [] 0 M.length),.set 3 (.ptr 3 []),.set 2 (.ptr 2 [])],
  [(16,.grow .sc (zac M)),(7,.fix (.ar 8 .sc) v.av),(6,.fix (.ar 64 .sc) (.agg (wsAV ws))),(3,.fix (.ar 8 .sc) s.av),(2,.fix (.ar 32 .sc) out32)]⟩
def S30c (M:List UInt8)(s v:H8)(a i:Nat):St :=
 ⟨[.set 11 (.int .i64 i),.set 7 (.ptr 7 []),.set 5 (.int .i64 a),.set 4 (.sl 16 [] 0 M.length),.set 3 (.ptr 3 []),.set 2 (.ptr 2 [])],
  [(16,.grow .sc (zac M)),(7,.fix (.ar 8 .sc) v.av),(3,.fix (.ar 8 .sc) s.av),(2,.fix (.ar 32 .sc) out32)]⟩
def S30d (s:H8)(i:Nat):St :=
 ⟨[.set 13 (.int .i64 i),.set 12 (.ptr 12 []),.set 3 (.ptr 3 []),.set 2 (.ptr 2 [])],
  [(12,.fix (.ar 32 .sc) (.agg (zac (outL s i)))),(3,.fix (.ar 8 .sc) s.av),(2,.fix (.ar 32 .sc) out32)]⟩
structure RotOk (F:Ev.Cl):Prop where
 r6:∀x:BitVec 32,F 173 [u32 x,.int .i64 6] []=some (u32 (rr x 6),[],[])
 r11:∀x:BitVec 32,F 173 [u32 x,.int .i64 11] []=some (u32 (rr x 11),[],[])
 r25:∀x:BitVec 32,F 173 [u32 x,.int .i64 25] []=some (u32 (rr x 25),[],[])
 r2:∀x:BitVec 32,F 173 [u32 x,.int .i64 2] []=some (u32 (rr x 2),[],[])
 r13:∀x:BitVec 32,F 173 [u32 x,.int .i64 13] []=some (u32 (rr x 13),[],[])
 r22:∀x:BitVec 32,F 173 [u32 x,.int .i64 22] []=some (u32 (rr x 22),[],[])
theorem z9e (F:Ev.Cl)(hr:RotOk F)(M:List UInt8)(s v:H8)(ws:Ws)(hl:ws.length=64)(a t:Nat)(ht:t<64)(k x:BitVec 32)(hk:kA[t]? =some (u32 k))(hx:(wsAV ws)[t]? =some (u32 x)) :
  zbd K30b (evC gl F L30b (S30b M s v ws a t))=some (S30b M s (zgh v k x) ws a (t+1)):=by
 obtain⟨va,vb,vc,vd,ve,vf,vg,vh⟩:=v
 simp(disch:=apply zq;omega) only[go_sem,simprocAttr,↓Nat.reduceEqDiff,xx,L30b,L30,m159,K30b,S30b,H8.av,hk,hx,z79,z8b,zb8,hl,hr.r6,hr.r11,hr.r25,hr.r2,hr.r13,hr.r22,qj6,glR,zgh,za4]
theorem qge (F:Ev.Cl)(M:List UInt8)(s v:H8)(ws:Ws)(a:Nat):isEx (evC gl F L30b (S30b M s v ws a 64))=true:=by
 simp(disch:=apply zq;omega) only[go_sem,simprocAttr,↓Nat.reduceEqDiff,xx,L30b,L30,m159,S30b]
def zhn (s v:H8):Nat->H8
 | 0=>s
 | 1=>⟨s.a+v.a,s.b,s.c,s.d,s.e,s.f,s.g,s.h⟩
 | 2=>⟨s.a+v.a,s.b+v.b,s.c,s.d,s.e,s.f,s.g,s.h⟩
 | 3=>⟨s.a+v.a,s.b+v.b,s.c+v.c,s.d,s.e,s.f,s.g,s.h⟩
 | 4=>⟨s.a+v.a,s.b+v.b,s.c+v.c,s.d+v.d,s.e,s.f,s.g,s.h⟩
 | 5=>⟨s.a+v.a,s.b+v.b,s.c+v.c,s.d+v.d,s.e+v.e,s.f,s.g,s.h⟩
 | 6=>⟨s.a+v.a,s.b+v.b,s.c+v.c,s.d+v.d,s.e+v.e,s.f+v.f,s.g,s.h⟩
 | 7=>⟨s.a+v.a,s.b+v.b,s.c+v.c,s.d+v.d,s.e+v.e,s.f+v.f,s.g+v.g,s.h⟩
 | _+8=>addH s v
theorem z9d (F:Ev.Cl)(M:List UInt8)(s v:H8)(a i:Nat)(hi:i<8):zbd K30c (evC gl F L30c (S30c M (zhn s v i) v a i))=some (S30c M (zhn s v (i+1)) v a (i+1)):=by
 match i,hi with
 | 0,_=>simp(disch:=apply zq;omega) only[go_sem,simprocAttr,↓Nat.reduceEqDiff,xx,L30c,L30,m159,K30c,S30c,H8.av,zhn,za4]
 | 1,_=>simp(disch:=apply zq;omega) only[go_sem,simprocAttr,↓Nat.reduceEqDiff,xx,L30c,L30,m159,K30c,S30c,H8.av,zhn,za4]
 | 2,_=>simp(disch:=apply zq;omega) only[go_sem,simprocAttr,↓Nat.reduceEqDiff,xx,L30c,L30,m159,K30c,S30c,H8.av,zhn,za4]
 | 3,_=>simp(disch:=apply zq;omega) only[go_sem,simprocAttr,↓Nat.reduceEqDiff,xx,L30c,L30,m159,K30c,S30c,H8.av,zhn,za4]
 | 4,_=>simp(disch:=apply zq;omega) only[go_sem,simprocAttr,↓Nat.reduceEqDiff,xx,L30c,L30,m159,K30c,S30c,H8.av,zhn,za4]
 | 5,_=>simp(disch:=apply zq;omega) only[go_sem,simprocAttr,↓Nat.reduceEqDiff,xx,L30c,L30,m159,K30c,S30c,H8.av,zhn,za4]
 | 6,_=>simp(disch:=apply zq;omega) only[go_sem,simprocAttr,↓Nat.reduceEqDiff,xx,L30c,L30,m159,K30c,S30c,H8.av,zhn,za4]
 | 7,_=>simp(disch:=apply zq;omega) only[go_sem,simprocAttr,↓Nat.reduceEqDiff,xx,L30c,L30,m159,K30c,S30c,H8.av,zhn,addH,za4]
theorem qgd (F:Ev.Cl)(M:List UInt8)(s v:H8)(a:Nat):isEx (evC gl F L30c (S30c M s v a 8))=true:=by
 simp(disch:=apply zq;omega) only[go_sem,simprocAttr,↓Nat.reduceEqDiff,xx,L30c,L30,m159,S30c]
theorem z9c (F:Ev.Cl)(s:H8)(i:Nat)(hi:i<32):zbd K30d (evC gl F L30d (S30d s i))=some (S30d s (i+1)):=by
 have hw1:IntKind.wrap .i64 (8*((i%4:Nat):Int))=((8*(i%4):Nat):Int):=by rw[zax (by omega) (by omega)];omega
 have hw2:IntKind.wrap .i64 (24-((8*(i%4):Nat):Int))=((24-8*(i%4):Nat):Int):=by rw[zax (by omega) (by omega)];omega
 have hg:=z8h s (i/4) (by omega)
 have hl:=zio s i (by omega)
 have hgo:∃y,(zac (outL s i))[i]? =some (.int .u8 y):=⟨_,zh6 (by omega)⟩
 obtain⟨y,hgo⟩:=hgo
 have h8:i/4<8:=by omega
 unfold S30d
 rw[zre _ _ hi,zg1]
 simp only[L30d,m159,K30d,H8.av,go_sem,simprocAttr,↓Nat.reduceEqDiff,hi,quo4 _ (show i<2^62 by omega),rem4,hw1,hw2,hg,h8,hgo,zab,hl,outB,zdx (show i<2^62 by omega),za4]
theorem qgc (F:Ev.Cl)(s:H8):isEx (evC gl F L30d (S30d s 32))=true:=by
 simp(disch:=apply zq;omega) only[go_sem,simprocAttr,↓Nat.reduceEqDiff,xx,L30d,m159,S30d]
end Go.Proofs.S44.H
namespace Go.Proofs.S44.H
open Go Go.Ev Go.Proofs Go.Proofs.S44
variable {gl :Gl} [Nonempty (GlR gl)]
theorem zrh :∀l:Ws,zd0 (wsAV l)=true
 | []=>rfl
 | a::l=>by
   show(zc9 (u32 a)&&zd0 (wsAV l))=true
   rw[zrh l];rfl
theorem step30 (F:Ev.Cl)(hr:RotOk F)(M:List UInt8)(s:H8)(k:Nat)(hk:64*k+64<=M.length)(hM:M.length<2^60)
  (c45:∀b:List UInt8,b.length=64->F 172 [.lst false .sc (zac b)] []=some (.agg (wsAV (zbu b 64)),[],[])) :
  zbd K30 (evC gl F L30 (S30 M s (64*k)))=some (S30 M (zm6 s (zc6 M k)) (64*k+64)):=by
 have hbl:(zc6 M k).length=64:=by unfold zc6;rw[List.length_take,List.length_drop];omega
 have hB:List.take 64 (List.drop (64*k) (zac M))=zac (zc6 M k):=by rw[zkg,zhm];rfl
 have c:=c45 _ hbl
 have e1:∀st,zda K30b st=some (S30b M s (zb3 s (zbu (zc6 M k) 64) 0) (zbu (zc6 M k) 64) (64*k) 0)->iter (evC gl F L30b) K30b LF st=evC gl F L30b (S30b M s (zb3 s (zbu (zc6 M k) 64) 64) (zbu (zc6 M k) 64) (64*k) 64):=fun st h0 =>
  zag (fun t=>S30b M s (zb3 s (zbu (zc6 M k) 64) t) (zbu (zc6 M k) 64) (64*k) t) 64 (by unfold LF;omega) h0
   (fun t ht=>z9e F hr M s _ _ (za9 _ _) _ t ht _ _ (z8a t ht) (zcl (by rw[za9];omega))) (qge F M s _ _ _)
 have e2:∀v st,zda K30c st=some (S30c M (zhn s v 0) v (64*k) 0)->iter (evC gl F L30c) K30c LF st=evC gl F L30c (S30c M (zhn s v 8) v (64*k) 8):=fun v st h0 =>
  zag (fun i=>S30c M (zhn s v i) v (64*k) i) 8 (by unfold LF;omega) h0 (fun i hi=>z9d F M s v _ i hi) (qgd F M _ v _)
 simp only[L30b,L30,m159,K30b]at e1
 simp only[L30c,L30,m159,K30c]at e2
 have h64:64*k+64-64*k=64:=by omega
 have hl64:=za9 (zc6 M k) 64
 have ec:zm6 s (zc6 M k)=zhn s (zb3 s (zbu (zc6 M k) 64) 64) 8:=rfl
 rw[ec]
 have hr0:zb3 s (zbu (zc6 M k) 64) 0=s:=rfl
 rw[hr0]at e1
 have hk4:wsAV (zbu (zc6 M k) 64)=wsAV (zbu (zc6 M k) 64):=rfl
 generalize zb3 s (zbu (zc6 M k) 64) 64=v at *
 generalize zbu (zc6 M k) 64=ws at *
 have hsub1:IntKind.wrap .i64 (((64*k:Nat):Int)+64)=((64*k+64:Nat):Int):=by rw[w64 (by omega)];omega
 generalize 64*k=a at *
 have hz:AV.agg (List.replicate 64 (.int .u32 0))=zer64:=rfl
 simp(disch:=apply zq;omega) only[go_sem,simprocAttr,↓Nat.reduceEqDiff,xx,L30,m159,K30,S30,H8.av,zab,h64,hB,c,zb8,hl64,zua,hsub1,zrh,↓hz]
 rw[e1 _ (by simp(disch:=apply zq;omega) only[go_sem,simprocAttr,↓Nat.reduceEqDiff,xx,S30b,H8.av,za4];done)]
 obtain⟨va,vb,vc,vd,ve,vf,vg,vh⟩:=v
 simp(disch:=apply zq;omega) only[go_sem,simprocAttr,↓Nat.reduceEqDiff,xx,S30b,H8.av]
 rw[e2 ⟨va,vb,vc,vd,ve,vf,vg,vh⟩ _ (by simp(disch:=apply zq;omega) only[go_sem,simprocAttr,↓Nat.reduceEqDiff,xx,S30c,H8.av,zhn,za4])]
 simp(disch:=apply zq;omega) only[go_sem,simprocAttr,↓Nat.reduceEqDiff,xx,S30c,H8.av,zhn,addH,za4,hsub1]
theorem qlq (F:Ev.Cl)(M:List UInt8)(s:H8):isEx (evC gl F L30 (S30 M s M.length))=true:=by
 simp(disch:=apply zq;omega) only[go_sem,simprocAttr,↓Nat.reduceEqDiff,xx,L30,m159,S30]
theorem qed (F:Ev.Cl)(hr:RotOk F)(nb:Bool)(m:List UInt8)(hm:m.length<2^34)
  (c44:F 171 [.lst nb .sc (zac m)] []=some (.sl 20000 [] 0 (m++padF m.length).length,[],[.grow .sc (zac (m++padF m.length))]))
  (c45:∀b:List UInt8,b.length=64->F 172 [.lst false .sc (zac b)] []=some (.agg (wsAV (zbu b 64)),[],[])) :
  finK fd159.res fd159.pk (evC gl F fd159.body {fr:=frOf 0 [.lst nb .sc (zac m)],hp:=[]})=some (.agg (zac (zjn m)),[],[]):=by
 have hpl:(padF m.length).length=padZ m.length+1+8:=by unfold padF;rw[wA,zez,zhg]
 have hz64:padZ m.length<64:=Nat.mod_lt _ (by omega)
 have hML:(m++padF m.length).length=m.length+(padZ m.length+1+8):=by rw[wA,hpl]
 have hdiv:64*((m.length+(padF m.length).length)/64)=(m++padF m.length).length:=by rw[hML,hpl];unfold padZ at *;omega
 have hN:(m.length+(padF m.length).length)/64<2^36:=by rw[hpl];omega
 have hhash:outL (zc3 (m++padF m.length) ((m.length+(padF m.length).length)/64)) 32=zjn m:=rfl
 have hM60:(m++padF m.length).length<2^60:=by rw[hML];omega
 generalize (m.length+(padF m.length).length)/64=N at *
 generalize m++padF m.length=M at *
 have e1:∀st,zda K30 st=some (S30 M (zc3 M 0) (64*0))->iter (evC gl F L30) K30 LF st=evC gl F L30 (S30 M (zc3 M N) M.length):=fun st h0=>by
  rw[zag (fun k=>S30 M (zc3 M k) (64*k)) N (by unfold LF;omega) h0 (fun k hk=>step30 F hr M _ k (by omega) hM60 c45) (by simp only[hdiv];exact qlq F M _),hdiv]
 have e2:∀s st,zda K30d st=some (S30d s 0)->iter (evC gl F L30d) K30d LF st=evC gl F L30d (S30d s 32):=fun s st h0 =>
  zag (S30d s) 32 (by unfold LF;omega) h0 (fun i hi=>z9c F s i hi) (qgc F s)
 have hz:AV.agg (List.replicate 64 (.int .u32 0))=zer64:=rfl
 simp only[L30,m159,K30,hz]at e1
 simp only[L30d,m159,K30d]at e2
 have ho:AV.agg (List.replicate 32 (.int .u8 0))=out32:=rfl
 have hq0:∀s,AV.agg (zac (outL s 0))=out32:=fun s=>rfl
 have hol:(zac (outL (zc3 M N) 32)).length=32:=by rw[zab];exact zio _ 32 (by omega)
 have hb0:(zc3 M 0).av= .agg [.int .u32 1779033703,.int .u32 3144134277,.int .u32 1013904242,.int .u32 2773480762,.int .u32 1359893119,.int .u32 2600822924,.int .u32 528734635,.int .u32 1541459225]:=by kernel_rfl
 generalize hbN:zc3 M N=s at *
 simp(disch:=apply zq;omega) only[go_sem,simprocAttr,↓Nat.reduceEqDiff,xx,fd159,m159,c44,↓ho,↓hz,zab,noImms_bytesAV]
 rw[e1 _ (by simp(disch:=apply zq;omega) only[go_sem,simprocAttr,↓Nat.reduceEqDiff,xx,S30,hb0,za4])]
 simp(disch:=apply zq;omega) only[go_sem,simprocAttr,↓Nat.reduceEqDiff,xx,S30,H8.av]
 rw[e2 s _ (by simp(disch:=apply zq;omega) only[go_sem,simprocAttr,↓Nat.reduceEqDiff,xx,S30d,H8.av,hq0,za4,↓ho])]
 have hhl:=ziu m
 simp(disch:=apply zq;omega) only[go_sem,simprocAttr,↓Nat.reduceEqDiff,xx,S30d,H8.av,bytes_all,zab,hhash,hhl]
theorem z91 {n:Nat}(h:1<=n):RotOk (call gl tab n):=by
 obtain⟨d,rfl⟩:=Nat.exists_eq_add_of_le' h
 exact⟨fun x=>ze8 d x 6 (by omega) (by omega),fun x=>ze8 d x 11 (by omega) (by omega),fun x=>ze8 d x 25 (by omega) (by omega),fun x=>ze8 d x 2 (by omega) (by omega),fun x=>ze8 d x 13 (by omega) (by omega),fun x=>ze8 d x 22 (by omega) (by omega)⟩
theorem z9x {n:Nat}(h:3<=n)(nb:Bool)(m:List UInt8)(hm:m.length<2^34):call gl tab n 159 [.lst nb .sc (zac m)] []=some (.agg (zac (zjn m)),[],[]):=by
 obtain⟨d,rfl⟩:=Nat.exists_eq_add_of_le' h
 exact(zad (n:=d+2) (fd:=fd159) rfl).trans (qed (call gl tab (d+2)) (z91 (by omega)) nb m hm (zz7 (d+1) nb m hm) fun b hb=>zyu d false b hb)
end Go.Proofs.S44.H
